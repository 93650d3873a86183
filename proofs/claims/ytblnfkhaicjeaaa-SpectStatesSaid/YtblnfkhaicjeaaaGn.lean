/-
  Numbers of the game: buttons, Abs, Near, Clamp, Roll, fixed.Mul of a small number; of the program and of the document.
-/
import Derived.Test.YtblnfkhaicjeaaaGst
import Derived.IntWalk
import Derived.Laws.Bits64b
namespace Go.Proofs.Ytblnfkhaicjeaaa.Gm
open Go.RowKit Go.Proofs.Ytblnfkhaicjeaaa.Num
set_option linter.all false

theorem and_two (n k : Nat) : n &&& 2 ^ k = n / 2 ^ k % 2 * 2 ^ k := by
  apply Nat.eq_of_testBit_eq
  intro i
  rw [Nat.testBit_and, Nat.testBit_two_pow]
  rcases Nat.mod_two_eq_zero_or_one (n / 2 ^ k) with h | h
  · rw [h, Nat.zero_mul, Nat.zero_testBit]
    by_cases e : k = i
    · subst e
      simp [Nat.testBit_eq_decide_div_mod_eq, h]
    · simp [e]
  · rw [h, Nat.one_mul, Nat.testBit_two_pow]
    by_cases e : k = i
    · subst e
      simp [Nat.testBit_eq_decide_div_mod_eq, h]
    · simp [e]
theorem andB {n : Nat} (h : n < 65536) (k : Nat) (hk : k < 16) : bits .and .u16 (n : Int) ((2 ^ k : Nat) : Int) = ((n / 2 ^ k % 2 * 2 ^ k : Nat) : Int) := by
  have hb : (2 : Nat) ^ k < 65536 := Nat.pow_lt_pow_right (a := 2) (n := 16) (by decide) hk
  have h1 : (BitVec.ofInt 16 (n : Int)).toNat = n := by rw [BitVec.ofInt_natCast, BitVec.toNat_ofNat]; exact Nat.mod_eq_of_lt (by omega)
  have h2 : (BitVec.ofInt 16 ((2 ^ k : Nat) : Int)).toNat = 2 ^ k := by rw [BitVec.ofInt_natCast, BitVec.toNat_ofNat]; exact Nat.mod_eq_of_lt (by omega)
  show IntKind.u16.wrap ((BitVec.ofInt 16 (n : Int) &&& BitVec.ofInt 16 ((2 ^ k : Nat) : Int)).toNat : Int) = _
  rw [BitVec.toNat_and, h1, h2, and_two]
  have h3 : n / 2 ^ k % 2 * 2 ^ k ≤ 1 * 2 ^ k := Nat.mul_le_mul_right _ (by omega)
  exact IntWalk.u16_in _ (by omega)
theorem and1 {n : Nat} (h : n < 65536) : bits .and .u16 (n : Int) 1 = ((n % 2 : Nat) : Int) := by simpa using andB h 0 (by decide)
theorem and2 {n : Nat} (h : n < 65536) : bits .and .u16 (n : Int) 2 = ((n / 2 % 2 * 2 : Nat) : Int) := andB h 1 (by decide)
theorem and4 {n : Nat} (h : n < 65536) : bits .and .u16 (n : Int) 4 = ((n / 4 % 2 * 4 : Nat) : Int) := andB h 2 (by decide)
theorem and16 {n : Nat} (h : n < 65536) : bits .and .u16 (n : Int) 16 = ((n / 16 % 2 * 16 : Nat) : Int) := andB h 4 (by decide)
theorem and32 {n : Nat} (h : n < 65536) : bits .and .u16 (n : Int) 32 = ((n / 32 % 2 * 32 : Nat) : Int) := andB h 5 (by decide)

set_option maxHeartbeats 1000000 in
theorem has_any (w : World) (n b : Nat) (hn : n < 65536) (hb : 0 < b) (hb2 : b ≤ 64) :
    Calls Try.prog 129 #[.int .u16 n, .int .i64 b] w fun e w' => e = .returned (.bool (decide (n / b % 2 = 1))) ∧ w = w' := by
  have hq : (n : Int).tdiv (b : Int) = ((n / b : Nat) : Int) := by rw [Int.tdiv_eq_ediv_of_nonneg (by omega)]; rfl
  have hle : n / b ≤ n := Nat.div_le_self _ _
  have hw1 : IntKind.i64.wrap (n : Int) = (n : Int) := IntWalk.i64_in _ (by omega)
  have HD := Lib.hid (show decide (n / b % 2 = 1) = ((((n / b : Nat) : Int) % 2) == 1) by rw [Bool.eq_iff_iff]; simp; omega)
  have hb0 : ¬ (b : Int) = 0 := by omega
  have hq' : (n : Int) / (b : Int) = ((n / b : Nat) : Int) := rfl
  generalize n / b = q at *
  have hw2 : IntKind.i64.wrap (q : Int) = (q : Int) := IntWalk.i64_in _ (by omega)
  go_enter Try.func129, Try.ntmps129
  go_wp2
  go_ret
  exact ⟨ret_bool (by rw [HD.out]), rfl⟩
theorem roll_any (w : World) (s : Int) (h0 : 0 ≤ s) (h1 : s < 4294967296) :
    Calls Try.prog 20 #[.int .u32 s] w fun e w' => e = .returned (.int .u32 (rollV s)) ∧ w = w' := by
  have e := Lib.hid (show IntKind.u32.wrap (IntKind.u32.wrap (s * 1664525) + 1013904223) = rollV s by simp [IntKind.wrap, IntKind.bits, IntKind.signed, rollV])
  go_enter Try.func20, Try.ntmps20
  go_wp2
  go_ret
  exact ⟨ret_int (by first | done | exact e.out | (rw [← e.out]; rfl) | (simp [IntKind.wrap, IntKind.bits, IntKind.signed, rollV]; done)), rfl⟩
theorem abs_any (w : World) (z : Int) (h0 : -9223372036854775808 ≤ z) (h1 : z ≤ 9223372036854775807) :
    Calls Try.prog 112 #[.int .i64 z] w fun e w' => e = .returned (.int .i64 (absV z)) ∧ w = w' := by
  by_cases c : z = -9223372036854775808
  · subst c
    go_enter Try.func112, Try.ntmps112
    go_wp2
    go_ret
    exact ⟨rfl, rfl⟩
  · have e : absV z = if z < 0 then -z else z := by unfold absV; rw [if_neg c]
    have E := Lib.hid e
    clear e
    by_cases c2 : z < 0
    · have hw : IntKind.i64.wrap (-z) = -z := IntWalk.i64_in _ (by omega)
      go_enter Try.func112, Try.ntmps112
      go_wp2
      go_ret
      exact ⟨ret_int (by rw [E.out, if_pos c2]), rfl⟩
    · go_enter Try.func112, Try.ntmps112
      go_wp2
      go_ret
      exact ⟨ret_int (by rw [E.out]; omega), rfl⟩
set_option maxHeartbeats 1000000 in
theorem rclamp_any (w : World) (z lo hi : Int) (h : lo ≤ hi) :
    Calls Try.prog 131 #[.int .i64 z, .int .i64 lo, .int .i64 hi] w fun e w' => e = .returned (.int .i64 (clampV z lo hi)) ∧ w = w' := by
  have h' : decide (hi < lo) = false := by simpa using h
  by_cases c : z < lo
  · have E := Lib.hid (show clampV z lo hi = lo by unfold clampV; omega)
    have c' : decide (z < lo) = true := by simpa using c
    go_enter Try.func131, Try.ntmps131
    go_wp2
    go_ret
    exact ⟨ret_int E.out.symm, rfl⟩
  · have c' : decide (z < lo) = false := by simpa using c
    by_cases c2 : hi < z
    · have E := Lib.hid (show clampV z lo hi = hi by unfold clampV; omega)
      go_enter Try.func131, Try.ntmps131
      go_wp2
      go_ret
      exact ⟨ret_int E.out.symm, rfl⟩
    · have E := Lib.hid (show clampV z lo hi = z by unfold clampV; omega)
      go_enter Try.func131, Try.ntmps131
      go_wp2
      go_ret
      exact ⟨ret_int E.out.symm, rfl⟩
set_option maxHeartbeats 1000000 in
theorem near_any (w : World) (a b r : Int) (a1 : -9223372036854775808 ≤ a) (a2 : a ≤ 9223372036854775807) (b1 : -9223372036854775808 ≤ b) (b2 : b ≤ 9223372036854775807) (hr : 0 ≤ r) :
    Calls Try.prog 75 #[.int .i64 a, .int .i64 b, .int .i64 r] w fun e w' => e = .returned (.bool (nearV a b r)) ∧ w = w' := by
  have p1 := Lib.hid (fun w => wsub_any w a b a1 a2 b1 b2)
  have hh := hold_bd (a - b)
  have HN := Lib.hid (show nearV a b r = decide (absV (hold (a - b)) ≤ r) from rfl)
  generalize hold (a - b) = d at *
  have p2 := Lib.hid (fun w => abs_any w d hh.1 hh.2)
  generalize absV d = m at *
  have hr' : decide (0 ≤ r) = true := by simpa using hr
  go_enter Try.func75, Try.ntmps75
  go_wp2_with fail
  refine (p1.out _).mono ?_
  rintro e w' ⟨rfl, rfl⟩
  go_wp2_with fail
  refine (p2.out _).mono ?_
  rintro e w' ⟨rfl, rfl⟩
  go_wp2_with fail
  go_ret
  exact ⟨ret_bool HN.out.symm, rfl⟩
theorem absV_held (z : Int) (h0 : -9223372036854775808 ≤ z) (h1 : z ≤ 9223372036854775807) : heldV false z.natAbs = absV z := by
  unfold heldV absV
  split <;> (try split) <;> (try split) <;> simp_all <;> omega
set_option maxRecDepth 100000 in
set_option maxHeartbeats 1000000 in
theorem rabs_any (w : World) (z : Int) (h0 : -9223372036854775808 ≤ z) (h1 : z ≤ 9223372036854775807) :
    Calls Try.prog 110 #[.int .i64 z] w fun e w' => e = .returned (.int .i64 (absV z)) ∧ Below w.heap.size w w' := by
  have p1 := Lib.hid (of_any w z h0 h1)
  have hz := Num.abs_lt h0 h1
  have HA := Lib.hid (absV_held z h0 h1)
  generalize decide (z < 0) = s at *
  generalize z.natAbs = m at *
  have hd5 : m < 65536 ^ 5 := by omega
  have p2 := Lib.hid (fun w => held_any w false m hd5)
  clear hd5
  go_enter Try.func110, Try.ntmps110
  go_wp2_with fail
  refine p1.out.mono ?_
  rintro e w1 ⟨rfl, hb1⟩
  unfold wv wcs
  go_wp2_with fail
  refine (p2.out _).mono ?_
  rintro e w2 ⟨rfl, hb2⟩
  rw [HA.out]
  go_wp2_with fail
  go_ret
  have hs1 := hb1.size
  exact ⟨rfl, (hb1.alloc hb1.size _).trans (hb2.mono (by simp; omega))⟩
set_option maxHeartbeats 1000000 in
theorem rnear_any (w : World) (a b r : Int) (a1 : -9223372036854775808 ≤ a) (a2 : a ≤ 9223372036854775807) (b1 : -9223372036854775808 ≤ b) (b2 : b ≤ 9223372036854775807) :
    Calls Try.prog 132 #[.int .i64 a, .int .i64 b, .int .i64 r] w fun e w' => e = .returned (.bool (nearV a b r)) ∧ Below w.heap.size w w' := by
  have p1 := Lib.hid (sub_any w a b a1 a2 b1 b2)
  have hh := hold_bd (a - b)
  have HN := Lib.hid (show nearV a b r = decide (absV (hold (a - b)) ≤ r) from rfl)
  generalize hold (a - b) = d at *
  have p2 := Lib.hid (fun w => rabs_any w d hh.1 hh.2)
  generalize absV d = m at *
  go_enter Try.func132, Try.ntmps132
  go_wp2_with fail
  refine p1.out.mono ?_
  rintro e w1 ⟨rfl, hb1⟩
  go_wp2_with fail
  refine (p2.out _).mono ?_
  rintro e w2 ⟨rfl, hb2⟩
  go_wp2_with fail
  go_ret
  exact ⟨ret_bool HN.out.symm, hb1.trans (hb2.mono hb1.size)⟩
end Go.Proofs.Ytblnfkhaicjeaaa.Gm
