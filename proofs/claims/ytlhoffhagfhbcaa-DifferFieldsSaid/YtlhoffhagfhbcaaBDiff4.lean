/-
  Texts joined: Gn, Gmul, Times, Gw, Gf. No condition.
-/
import Derived.Test.YtlhoffhagfhbcaaBDiff3
import Derived.IntWalk
import Derived.Laws.Bits64b
import Derived.BigRegion
import Derived.StillTailTactics
namespace Go.Proofs.Ytlhoffhagfhbcaa.Gm
open Go.RowKit Go.Proofs.Ytlhoffhagfhbcaa.Num
set_option linter.all false

theorem and_two (n k : Nat) : n &&& 2 ^ k = n / 2 ^ k % 2 * 2 ^ k := by
  apply Nat.eq_of_testBit_eq
  intro i
  rw [Nat.testBit_and, Nat.testBit_two_pow]
  rcases Nat.mod_two_eq_zero_or_one (n / 2 ^ k) with h | h
  · rw [h, Nat.zero_mul, Nat.zero_testBit]
    by_cases e : k = i
    · subst e
      simp [Nat.testBit_eq_decide_div_mod_eq, h]
    · simp [e]
  · rw [h, Nat.one_mul, Nat.testBit_two_pow]
    by_cases e : k = i
    · subst e
      simp [Nat.testBit_eq_decide_div_mod_eq, h]
    · simp [e]
theorem andB {n : Nat} (h : n < 65536) (k : Nat) (hk : k < 16) : bits .and .u16 (n : Int) ((2 ^ k : Nat) : Int) = ((n / 2 ^ k % 2 * 2 ^ k : Nat) : Int) := by
  have hb : (2 : Nat) ^ k < 65536 := Nat.pow_lt_pow_right (a := 2) (n := 16) (by decide) hk
  have h1 : (BitVec.ofInt 16 (n : Int)).toNat = n := by rw [BitVec.ofInt_natCast, BitVec.toNat_ofNat]; exact Nat.mod_eq_of_lt (by omega)
  have h2 : (BitVec.ofInt 16 ((2 ^ k : Nat) : Int)).toNat = 2 ^ k := by rw [BitVec.ofInt_natCast, BitVec.toNat_ofNat]; exact Nat.mod_eq_of_lt (by omega)
  show IntKind.u16.wrap ((BitVec.ofInt 16 (n : Int) &&& BitVec.ofInt 16 ((2 ^ k : Nat) : Int)).toNat : Int) = _
  rw [BitVec.toNat_and, h1, h2, and_two]
  have h3 : n / 2 ^ k % 2 * 2 ^ k ≤ 1 * 2 ^ k := Nat.mul_le_mul_right _ (by omega)
  exact IntWalk.u16_in _ (by omega)
theorem and1 {n : Nat} (h : n < 65536) : bits .and .u16 (n : Int) 1 = ((n % 2 : Nat) : Int) := by simpa using andB h 0 (by decide)
theorem and2 {n : Nat} (h : n < 65536) : bits .and .u16 (n : Int) 2 = ((n / 2 % 2 * 2 : Nat) : Int) := andB h 1 (by decide)
theorem and4 {n : Nat} (h : n < 65536) : bits .and .u16 (n : Int) 4 = ((n / 4 % 2 * 4 : Nat) : Int) := andB h 2 (by decide)
theorem and16 {n : Nat} (h : n < 65536) : bits .and .u16 (n : Int) 16 = ((n / 16 % 2 * 16 : Nat) : Int) := andB h 4 (by decide)
theorem and32 {n : Nat} (h : n < 65536) : bits .and .u16 (n : Int) 32 = ((n / 32 % 2 * 32 : Nat) : Int) := andB h 5 (by decide)

set_option maxHeartbeats 1000000 in
theorem has_any (w : World) (n b : Nat) (hn : n < 65536) (hb : 0 < b) (hb2 : b ≤ 64) :
    Calls Try.prog 127 #[.int .u16 n, .int .i64 b] w fun e w' => e = .returned (.bool (decide (n / b % 2 = 1))) ∧ w = w' := by
  have hq : (n : Int).tdiv (b : Int) = ((n / b : Nat) : Int) := by rw [Int.tdiv_eq_ediv_of_nonneg (by omega)]; rfl
  have hle : n / b ≤ n := Nat.div_le_self _ _
  have hw1 : IntKind.i64.wrap (n : Int) = (n : Int) := IntWalk.i64_in _ (by omega)
  have HD := Lib.hid (show decide (n / b % 2 = 1) = ((((n / b : Nat) : Int) % 2) == 1) by rw [Bool.eq_iff_iff]; simp; omega)
  have hb0 : ¬ (b : Int) = 0 := by omega
  have hq' : (n : Int) / (b : Int) = ((n / b : Nat) : Int) := rfl
  generalize n / b = q at *
  have hw2 : IntKind.i64.wrap (q : Int) = (q : Int) := IntWalk.i64_in _ (by omega)
  go_enter Try.func127, Try.ntmps127
  go_wp2
  go_ret
  exact ⟨ret_bool (by rw [HD.out]), rfl⟩
theorem roll_any (w : World) (s : Int) (h0 : 0 ≤ s) (h1 : s < 4294967296) :
    Calls Try.prog 40 #[.int .u32 s] w fun e w' => e = .returned (.int .u32 (rollV s)) ∧ w = w' := by
  have e := Lib.hid (show IntKind.u32.wrap (IntKind.u32.wrap (s * 1664525) + 1013904223) = rollV s by simp [IntKind.wrap, IntKind.bits, IntKind.signed, rollV])
  go_enter Try.func40, Try.ntmps40
  go_wp2
  go_ret
  exact ⟨ret_int (by first | done | exact e.out | (rw [← e.out]; rfl) | (simp [IntKind.wrap, IntKind.bits, IntKind.signed, rollV]; done)), rfl⟩
theorem abs_any (w : World) (z : Int) (h0 : -9223372036854775808 ≤ z) (h1 : z ≤ 9223372036854775807) :
    Calls Try.prog 138 #[.int .i64 z] w fun e w' => e = .returned (.int .i64 (absV z)) ∧ w = w' := by
  by_cases c : z = -9223372036854775808
  · subst c
    go_enter Try.func138, Try.ntmps138
    go_wp2
    go_ret
    exact ⟨rfl, rfl⟩
  · have e : absV z = if z < 0 then -z else z := by unfold absV; rw [if_neg c]
    have E := Lib.hid e
    clear e
    by_cases c2 : z < 0
    · have hw : IntKind.i64.wrap (-z) = -z := IntWalk.i64_in _ (by omega)
      go_enter Try.func138, Try.ntmps138
      go_wp2
      go_ret
      exact ⟨ret_int (by rw [E.out, if_pos c2]), rfl⟩
    · go_enter Try.func138, Try.ntmps138
      go_wp2
      go_ret
      exact ⟨ret_int (by rw [E.out]; omega), rfl⟩
set_option maxHeartbeats 1000000 in
theorem rclamp_any (w : World) (z lo hi : Int) (h : lo ≤ hi) :
    Calls Try.prog 129 #[.int .i64 z, .int .i64 lo, .int .i64 hi] w fun e w' => e = .returned (.int .i64 (clampV z lo hi)) ∧ w = w' := by
  have h' : decide (hi < lo) = false := by simpa using h
  by_cases c : z < lo
  · have E := Lib.hid (show clampV z lo hi = lo by unfold clampV; omega)
    have c' : decide (z < lo) = true := by simpa using c
    go_enter Try.func129, Try.ntmps129
    go_wp2
    go_ret
    exact ⟨ret_int E.out.symm, rfl⟩
  · have c' : decide (z < lo) = false := by simpa using c
    by_cases c2 : hi < z
    · have E := Lib.hid (show clampV z lo hi = hi by unfold clampV; omega)
      go_enter Try.func129, Try.ntmps129
      go_wp2
      go_ret
      exact ⟨ret_int E.out.symm, rfl⟩
    · have E := Lib.hid (show clampV z lo hi = z by unfold clampV; omega)
      go_enter Try.func129, Try.ntmps129
      go_wp2
      go_ret
      exact ⟨ret_int E.out.symm, rfl⟩
set_option maxHeartbeats 1000000 in
theorem near_any (w : World) (a b r : Int) (a1 : -9223372036854775808 ≤ a) (a2 : a ≤ 9223372036854775807) (b1 : -9223372036854775808 ≤ b) (b2 : b ≤ 9223372036854775807) (hr : 0 ≤ r) :
    Calls Try.prog 126 #[.int .i64 a, .int .i64 b, .int .i64 r] w fun e w' => e = .returned (.bool (nearV a b r)) ∧ w = w' := by
  have p1 := Lib.hid (fun w => wsub_any w a b a1 a2 b1 b2)
  have hh := hold_bd (a - b)
  have HN := Lib.hid (show nearV a b r = decide (absV (hold (a - b)) ≤ r) from rfl)
  generalize hold (a - b) = d at *
  have p2 := Lib.hid (fun w => abs_any w d hh.1 hh.2)
  generalize absV d = m at *
  have hr' : decide (0 ≤ r) = true := by simpa using hr
  go_enter Try.func126, Try.ntmps126
  go_wp2_with fail
  refine (p1.out _).mono ?_
  rintro e w' ⟨rfl, rfl⟩
  go_wp2_with fail
  refine (p2.out _).mono ?_
  rintro e w' ⟨rfl, rfl⟩
  go_wp2_with fail
  go_ret
  exact ⟨ret_bool HN.out.symm, rfl⟩
theorem absV_held (z : Int) (h0 : -9223372036854775808 ≤ z) (h1 : z ≤ 9223372036854775807) : heldV false z.natAbs = absV z := by
  unfold heldV absV
  split <;> (try split) <;> (try split) <;> simp_all <;> omega
set_option maxRecDepth 100000 in
set_option maxHeartbeats 1000000 in
theorem rabs_any (w : World) (z : Int) (h0 : -9223372036854775808 ≤ z) (h1 : z ≤ 9223372036854775807) :
    Calls Try.prog 145 #[.int .i64 z] w fun e w' => e = .returned (.int .i64 (absV z)) ∧ Below w.heap.size w w' := by
  have p1 := Lib.hid (of_any w z h0 h1)
  have hz := Num.abs_lt h0 h1
  have HA := Lib.hid (absV_held z h0 h1)
  generalize decide (z < 0) = s at *
  generalize z.natAbs = m at *
  have hd5 : m < 65536 ^ 5 := by omega
  have p2 := Lib.hid (fun w => held_any w false m hd5)
  clear hd5
  go_enter Try.func145, Try.ntmps145
  go_wp2_with fail
  refine p1.out.mono ?_
  rintro e w1 ⟨rfl, hb1⟩
  unfold wv wcs
  go_wp2_with fail
  refine (p2.out _).mono ?_
  rintro e w2 ⟨rfl, hb2⟩
  rw [HA.out]
  go_wp2_with fail
  go_ret
  have hs1 := hb1.size
  exact ⟨rfl, (hb1.alloc hb1.size _).trans (hb2.mono (by simp; omega))⟩
set_option maxHeartbeats 1000000 in
theorem rnear_any (w : World) (a b r : Int) (a1 : -9223372036854775808 ≤ a) (a2 : a ≤ 9223372036854775807) (b1 : -9223372036854775808 ≤ b) (b2 : b ≤ 9223372036854775807) :
    Calls Try.prog 132 #[.int .i64 a, .int .i64 b, .int .i64 r] w fun e w' => e = .returned (.bool (nearV a b r)) ∧ Below w.heap.size w w' := by
  have p1 := Lib.hid (sub_any w a b a1 a2 b1 b2)
  have hh := hold_bd (a - b)
  have HN := Lib.hid (show nearV a b r = decide (absV (hold (a - b)) ≤ r) from rfl)
  generalize hold (a - b) = d at *
  have p2 := Lib.hid (fun w => rabs_any w d hh.1 hh.2)
  generalize absV d = m at *
  go_enter Try.func132, Try.ntmps132
  go_wp2_with fail
  refine p1.out.mono ?_
  rintro e w1 ⟨rfl, hb1⟩
  go_wp2_with fail
  refine (p2.out _).mono ?_
  rintro e w2 ⟨rfl, hb2⟩
  go_wp2_with fail
  go_ret
  exact ⟨ret_bool HN.out.symm, hb1.trans (hb2.mono hb1.size)⟩
end Go.Proofs.Ytlhoffhagfhbcaa.Gm
namespace Go.Proofs.Ytlhoffhagfhbcaa.Gm
open Go.RowKit Go.Proofs.Ytlhoffhagfhbcaa.Num
set_option linter.all false

theorem low32 {m : Nat} (h : m < 4294967296) : bits .and .u64 (m : Int) 4294967295 = (m : Int) := by
  have := bits_and_u64_nat m 4294967295 (by omega) (by omega)
  rw [show ((4294967295 : Nat) : Int) = 4294967295 from rfl] at this
  rw [this]
  have e : m &&& 4294967295 = m := by
    have := Nat.and_two_pow_sub_one_eq_mod m 32
    rw [show (2 : Nat) ^ 32 - 1 = 4294967295 from rfl] at this
    rw [this]
    omega
  rw [e]
set_option maxHeartbeats 1000000 in
theorem abs64_any (w : World) (z : Int) (h0 : -9223372036854775808 ≤ z) (h1 : z ≤ 9223372036854775807) :
    Calls Try.prog 137 #[.int .i64 z] w fun e w' => e = .returned (.int .u64 (z.natAbs : Nat)) ∧ w = w' := by
  by_cases c : z < 0
  · obtain ⟨m, rfl⟩ : ∃ m : Nat, z = -(m : Int) := ⟨z.natAbs, by omega⟩
    have e := Lib.hid (neg_neg64 m (by omega) (by omega))
    have en : (-(m : Int)).natAbs = m := by omega
    rw [en]
    have c' : decide (-(m : Int) < 0) = true := by simpa using c
    have hm0 : 0 < m := by omega
    clear c h0 h1 en
    go_enter Try.func137, Try.ntmps137
    go_wp2
    go_ret
    exact ⟨ret_int e.out, rfl⟩
  · obtain ⟨m, rfl⟩ : ∃ m : Nat, z = (m : Int) := ⟨z.natAbs, by omega⟩
    have e : IntKind.u64.wrap (m : Int) = (m : Int) := IntWalk.u64_in _ (by omega)
    rw [Int.natAbs_natCast]
    go_enter Try.func137, Try.ntmps137
    go_wp2
    go_ret
    exact ⟨rfl, rfl⟩
set_option maxHeartbeats 2000000 in
theorem wide_any (w : World) (v : Int) (h0 : -196608 ≤ v) (h1 : v ≤ 196608) :
    Calls Try.prog 125 #[.int .i64 v, .int .i64 57344] w fun e w' => e = .returned (.tuple #[.int .i64 (if v < 0 then -1 else 0), .int .u64 (if v < 0 then v * 57344 + 18446744073709551616 else v * 57344)]) ∧ w = w' := by
  have pA := Lib.hid (fun w => abs64_any w v (by omega) (by omega))
  have pB := Lib.hid (fun w => abs64_any w 57344 (by omega) (by omega))
  have b1 : bits .and .u64 57344 4294967295 = 57344 := by decide +kernel
  have b0 : bits .and .u64 0 4294967295 = 0 := by decide +kernel
  by_cases c : v < 0
  · obtain ⟨m, rfl⟩ : ∃ m : Nat, v = -(m : Int) := ⟨v.natAbs, by omega⟩
    rw [show (-(m : Int)).natAbs = m by omega] at pA
    have q1 : (m : Int) / 4294967296 = 0 := by omega
    have q2 := low32 (m := m) (by omega)
    have q3 : IntKind.u64.wrap ((m : Int) * 57344) = (m : Int) * 57344 := IntWalk.u64_in _ (by omega)
    obtain ⟨t, ht⟩ : ∃ t : Nat, (t : Int) = (m : Int) * 57344 / 4294967296 := ⟨m * 57344 / 4294967296, by omega⟩
    have t1 : t < 10 := by omega
    have q4 : (m : Int) * 57344 / 4294967296 = (t : Int) := ht.symm
    have q5 : (t : Int) / 4294967296 = 0 := by omega
    have q6 := low32 (m := t) (by omega)
    have q7 : IntKind.u64.wrap (t : Int) = (t : Int) := IntWalk.u64_in _ (by omega)
    have q8 : IntKind.u64.wrap (-(m : Int)) = 18446744073709551616 - (m : Int) := by simp [IntKind.wrap, IntKind.bits, IntKind.signed]; omega
    have q9 : IntKind.u64.wrap ((18446744073709551616 - (m : Int)) * 57344) = 18446744073709551616 - (m : Int) * 57344 := by simp [IntKind.wrap, IntKind.bits, IntKind.signed]; omega
    have E1 := Lib.hid (show -(m : Int) * 57344 + 18446744073709551616 = 18446744073709551616 - (m : Int) * 57344 by omega)
    have q10 : ((18446744073709551616 - (m : Int) * 57344) == 0) = false := by simp; omega
    have c' : decide (-(m : Int) < 0) = true := by simpa using c
    have hm0 : 0 < m := by omega
    have x1 : bits BinOp.xor IntKind.u64 IntKind.u64.max 0 = 18446744073709551615 := by decide +kernel
    have x2 : wrap64 18446744073709551615 = -1 := by decide +kernel
    rw [if_pos c, if_pos c, E1.out]
    clear c h0 h1 ht E1
    go_enter Try.func125, Try.ntmps125
    go_wp2_with fail
    refine (pA.out _).mono ?_
    rintro e w' ⟨rfl, rfl⟩
    go_wp2_with fail
    refine (pB.out _).mono ?_
    rintro e w' ⟨rfl, rfl⟩
    go_wp2_with fail
    go_ret2
    exact ⟨rfl, rfl⟩
  · obtain ⟨m, rfl⟩ : ∃ m : Nat, v = (m : Int) := ⟨v.natAbs, by omega⟩
    rw [Int.natAbs_natCast] at pA
    have q1 : (m : Int) / 4294967296 = 0 := by omega
    have q2 := low32 (m := m) (by omega)
    have q3 : IntKind.u64.wrap ((m : Int) * 57344) = (m : Int) * 57344 := IntWalk.u64_in _ (by omega)
    obtain ⟨t, ht⟩ : ∃ t : Nat, (t : Int) = (m : Int) * 57344 / 4294967296 := ⟨m * 57344 / 4294967296, by omega⟩
    have t1 : t < 10 := by omega
    have q4 : (m : Int) * 57344 / 4294967296 = (t : Int) := ht.symm
    have q5 : (t : Int) / 4294967296 = 0 := by omega
    have q6 := low32 (m := t) (by omega)
    have q7 : IntKind.u64.wrap (t : Int) = (t : Int) := IntWalk.u64_in _ (by omega)
    have q8 : IntKind.u64.wrap (m : Int) = (m : Int) := IntWalk.u64_in _ (by omega)
    have c' : decide ((m : Int) < 0) = false := by simpa using c
    rw [if_neg c, if_neg c]
    clear c h0 h1 ht
    go_enter Try.func125, Try.ntmps125
    go_wp2_with fail
    refine (pA.out _).mono ?_
    rintro e w' ⟨rfl, rfl⟩
    go_wp2_with fail
    refine (pB.out _).mono ?_
    rintro e w' ⟨rfl, rfl⟩
    go_wp2_with fail
    go_ret2
    exact ⟨rfl, rfl⟩
theorem or_top {t : Nat} (h : t < 281474976710656) : bits .or .i64 (-281474976710656) (t : Int) = (t : Int) - 281474976710656 := by
  have h1 : (BitVec.ofInt 64 (t : Int)).toNat = t := by rw [BitVec.ofInt_natCast, BitVec.toNat_ofNat]; exact Nat.mod_eq_of_lt (by omega)
  have h2 : (BitVec.ofInt 64 (-281474976710656)).toNat = 65535 * 281474976710656 := by decide +kernel
  show IntKind.i64.wrap ((BitVec.ofInt 64 (-281474976710656) ||| BitVec.ofInt 64 (t : Int)).toNat : Int) = _
  rw [BitVec.toNat_or, h1, h2]
  have e : 65535 * 281474976710656 ||| t = 65535 * 281474976710656 + t := by
    have := Nat.two_pow_add_eq_or_of_lt (i := 48) (b := t) (by omega) 65535
    rw [show 65535 * 281474976710656 = 2 ^ 48 * 65535 by decide]
    exact this.symm
  rw [e]
  simp [IntKind.wrap, IntKind.bits, IntKind.signed]
  omega
theorem or_zero {t : Nat} (h : t < 281474976710656) : bits .or .i64 0 (t : Int) = (t : Int) := by
  have h1 : (BitVec.ofInt 64 (t : Int)).toNat = t := by rw [BitVec.ofInt_natCast, BitVec.toNat_ofNat]; exact Nat.mod_eq_of_lt (by omega)
  have h2 : (BitVec.ofInt 64 0).toNat = 0 := by decide +kernel
  show IntKind.i64.wrap ((BitVec.ofInt 64 0 ||| BitVec.ofInt 64 (t : Int)).toNat : Int) = _
  rw [BitVec.toNat_or, h1, h2, Nat.zero_or]
  exact IntWalk.i64_in _ (by omega)
set_option maxHeartbeats 2000000 in
theorem fmul_any (w : World) (v : Int) (h0 : -196608 ≤ v) (h1 : v ≤ 196608) :
    Calls Try.prog 102 #[.int .i64 v, .int .i64 57344] w fun e w' => e = .returned (.int .i64 (mulV v)) ∧ w = w' := by
  have pA := Lib.hid (fun w => wide_any w v h0 h1)
  by_cases c : v < 0
  · rw [if_pos c, if_pos c] at pA
    obtain ⟨t, ht⟩ : ∃ t : Nat, (t : Int) = (v * 57344 + 18446744073709551616) / 65536 := ⟨((v * 57344 + 18446744073709551616) / 65536).toNat, by omega⟩
    have t1 : t < 281474976710656 := by omega
    have E := Lib.hid (show mulV v = (t : Int) - 281474976710656 by unfold mulV; omega)
    obtain ⟨l, hl⟩ : ∃ l : Int, l = v * 57344 + 18446744073709551616 := ⟨_, rfl⟩
    rw [← hl] at pA ht
    have q1 : l / 65536 = (t : Int) := ht.symm
    have l0 : 0 ≤ l := by omega
    have q2 : IntKind.i64.wrap (t : Int) = (t : Int) := IntWalk.i64_in _ (by omega)
    have q3 := or_top t1
    have q4 : IntKind.i64.wrap (-281474976710656) = -281474976710656 := by decide +kernel
    clear ht hl
    go_enter Try.func102, Try.ntmps102
    go_wp2_with fail
    refine (pA.out _).mono ?_
    rintro e w' ⟨rfl, rfl⟩
    go_wp2_with fail
    go_ret
    exact ⟨ret_int E.out.symm, rfl⟩
  · rw [if_neg c, if_neg c] at pA
    obtain ⟨t, ht⟩ : ∃ t : Nat, (t : Int) = v * 57344 / 65536 := ⟨(v * 57344 / 65536).toNat, by omega⟩
    have t1 : t < 281474976710656 := by omega
    have E := Lib.hid (show mulV v = (t : Int) by unfold mulV; omega)
    obtain ⟨l, hl⟩ : ∃ l : Int, l = v * 57344 := ⟨_, rfl⟩
    rw [← hl] at pA ht
    have q1 : l / 65536 = (t : Int) := ht.symm
    have l0 : 0 ≤ l := by omega
    have q2 : IntKind.i64.wrap (t : Int) = (t : Int) := IntWalk.i64_in _ (by omega)
    have q3 := or_zero t1
    clear ht hl
    go_enter Try.func102, Try.ntmps102
    go_wp2_with fail
    refine (pA.out _).mono ?_
    rintro e w' ⟨rfl, rfl⟩
    go_wp2_with fail
    go_ret
    exact ⟨ret_int E.out.symm, rfl⟩
end Go.Proofs.Ytlhoffhagfhbcaa.Gm
namespace Go.Proofs.Ytlhoffhagfhbcaa.Num
open Go.RowKit
set_option linter.all false

def rowF (i x n k : Nat) : Nat → Nat := fun j => if j < i + k then dig (65536 ^ i * (x * n)) j else 0
theorem rowF_succ (i x n k j : Nat) : upd (rowF i x n k) (i + k) ((x * dig n k + mcar x n k) % 65536) j = rowF i x n (k + 1) j := by
  rw [mul_dig]
  unfold upd rowF
  by_cases h : j = i + k
  · subst h
    rw [if_pos rfl, if_pos (by omega), dig_mul_pow]
  · rw [if_neg h]
    by_cases h2 : j < i + k
    · rw [if_pos h2, if_pos (by omega)]
    · rw [if_neg h2, if_neg (by omega)]
theorem rowF_end (i x n j : Nat) (hx : x < 65536) (hn : n < 65536 ^ 4) : upd (rowF i x n 4) (i + 4) (mcar x n 4) j = dig (65536 ^ i * (x * n)) j := by
  have hc : mcar x n 4 = dig (x * n) 4 := (mcar_end x n 4 hn).resolve_right (fun h => h hx)
  rw [hc]
  unfold upd rowF
  by_cases h : j = i + 4
  · subst h
    rw [if_pos rfl, dig_mul_pow]
  · rw [if_neg h]
    by_cases h2 : j < i + 4
    · rw [if_pos h2]
    · rw [if_neg h2]
      have hxn : x * n < 65536 ^ 5 := Nat.lt_of_lt_of_le (Nat.mul_lt_mul'' hx hn) (by decide)
      have hp : 65536 ^ i * (x * n) < 65536 ^ (i + 5) := by rw [Nat.pow_add]; exact Nat.mul_lt_mul_of_pos_left hxn (pow_pos' i)
      exact (dig_big' hp (by omega)).symm
theorem wcs_one (s : Bool) (f : Nat → Nat) : (wcs s f).all (·.oneCell') = true := by simp [wcs, Value.oneCell']
theorem wcs_size (s : Bool) (f : Nat → Nat) : (wcs s f).size = 10 := rfl
theorem infoW : (Try.prog.info? 195).map (·.size) = some 10 := by kernel_rfl
theorem acc_succ (m n i : Nat) : m % 65536 ^ i * n + 65536 ^ i * (dig m i * n) = m % 65536 ^ (i + 1) * n := by
  rw [mod_succ, Nat.add_mul, Nat.mul_assoc]

set_option maxRecDepth 100000 in
set_option maxHeartbeats 4000000 in
theorem times_any (w : World) (sa sb : Bool) (m n : Nat) (hm : m < 65536 ^ 4) (hn : n < 65536 ^ 4) :
    Calls Try.prog 140 #[wv sa m, wv sb n] w fun e w' => e = .returned (wv (sa != sb) (m * n)) ∧ Below w.heap.size w w' := by
  obtain ⟨W1, hW1, ha, hb, hc, hB1, hz1⟩ := boxes2 w sa sb (dig m) (dig n)
  have pP := Lib.hid (fun W m n => plus_any W false false m n)
  unfold wv at pP
  unfold wv
  unfold wz at hW1
  have HM := Lib.hid hm
  have HN := Lib.hid hn
  clear hm hn
  have hz1' : W1.heap.size = w.heap.size + 1 + 1 + 1 := by omega
  go_enter Try.func140, Try.ntmps140
  go_upto_region 1 with fail
  rw [← hW1]
  have HZ := Lib.hid hz1'
  clear hW1 hz1 hz1'
  obtain ⟨bo, hbo⟩ : ∃ bo, bo = w.heap.size + 1 + 1 + 1 := ⟨_, rfl⟩
  have hd := WB.zero W1
  have hB2 : Below w.heap.size w (W1.alloc (.cells wz 195)) := hB1.alloc hB1.size _
  have ha2 := WB.alloc ha (.cells wz 195)
  have hb2 := WB.alloc hb (.cells wz 195)
  have hc2 := WB.alloc hc (.cells wz 195)
  rw [HZ.out] at hd
  have hzz : (W1.alloc (.cells wz 195)).heap.size = w.heap.size + 4 := by simp [HZ.out]
  have HZZ := Lib.hid hzz
  unfold wz at hd hB2 ha2 hb2 hc2 HZZ
  clear ha hb hc hB1 hzz
  go_upto_region 2 with fail
  rw [HZ.out]
  generalize W1.alloc _ = W2 at *
  go_wp2_with fail
  go_loopw [6] (fun iv wr => ∃ i : Nat, i ≤ 4 ∧ iv = .int .i64 i ∧ WB wr w.heap.size sa (dig m) ∧ WB wr (w.heap.size + 1) sb (dig n) ∧ WB wr (w.heap.size + 1 + 1) false (fun _ => 0) ∧ WB wr (w.heap.size + 1 + 1 + 1) false (dig (m % 65536 ^ i * n)) ∧ w.heap.size + 4 ≤ wr.heap.size ∧ Below w.heap.size w wr) (fun iv _ => 4 - (intOf iv).toNat)
  case atStart => exact ⟨0, by omega, rfl, ha2, hb2, hc2, hd.congr (fun j _ => by simp [Nat.mod_one, dig]), by rw [HZZ.out]; omega, hB2⟩
  case round =>
    clear ha2 hb2 hc2 hd hB2 HZZ HZ
    obtain ⟨i, hi, rfl, ha, hb, hc, hd, hz, hB⟩ := hrel
    obtain ⟨wo, rfl⟩ : ∃ wo : World, wo = wr := ⟨_, rfl⟩
    by_cases hlt : i < 4
    · have i1 : (0 : Int) ≤ (i : Int) := by omega
      have i2 : (i : Int) < 4 := by omega
      have HE := Lib.hid (acc_succ m n i)
      have hx := dig_lt m i
      have cX := ha.at_ (i := i) (by omega)
      have HC := Lib.hid (rowF_end i (dig m i) n · hx HN.out)
      have HS := Lib.hid (rowF_succ i (dig m i) n)
      have HM := Lib.hid (mul_car (dig m i) n)
      have HML := Lib.hid (fun k => mcar_le (dig m i) n k hx)
      have hm0 := mcar_zero (dig m i) n
      have H0 := Lib.hid hm0
      have hr := WB.zero wo
      have ha2 := WB.alloc ha (.cells wz 195)
      have hb2 := WB.alloc hb (.cells wz 195)
      have hc2 := WB.alloc hc (.cells wz 195)
      have hd2 := WB.alloc hd (.cells wz 195)
      have hB2 : Below w.heap.size w (wo.alloc (.cells wz 195)) := hB.alloc hB.size _
      have hz2 : (wo.alloc (.cells wz 195)).heap.size = wo.heap.size + 1 := by simp
      have HZ2 := Lib.hid hz2
      clear ha hb hc hd hB hz2 cX hm0
      unfold wz at *
      obtain ⟨x, hxx⟩ : ∃ x, dig m i = x := ⟨_, rfl⟩
      rw [hxx] at HC HS HM HML H0 hx HE
      have HX := Lib.hid hxx
      clear hxx
      go_upto_region 6 with fail
      generalize wo.heap.size = r at *
      generalize wo.alloc _ = W3 at *
      have hr0 : WB W3 r false (rowF i x n 0) := hr.congr (fun j _ => by
        unfold rowF
        split
        · rw [dig_mul_pow_lo _ _ _ (by omega)]
        · rfl)
      clear hr
      go_wp2_with fail
      go_loopw [8, 9] (fun cv jv wr => ∃ k : Nat, k ≤ 4 ∧ jv = .int .i64 k ∧ cv = .int .u64 (mcar x n k : Nat) ∧ WB wr w.heap.size sa (dig m) ∧ WB wr (w.heap.size + 1) sb (dig n) ∧ WB wr (w.heap.size + 1 + 1) false (fun _ => 0) ∧ WB wr (w.heap.size + 1 + 1 + 1) false (dig (m % 65536 ^ i * n)) ∧ WB wr r false (rowF i x n k) ∧ r + 1 ≤ wr.heap.size ∧ Below w.heap.size w wr) (fun _ jv _ => 4 - (intOf jv).toNat)
      case atStart => exact ⟨0, by omega, rfl, by rw [H0.out]; rfl, ha2, hb2, hc2, hd2, hr0, by rw [HZ2.out]; omega, hB2⟩
      case round =>
        clear ha2 hb2 hc2 hd2 hB2 HZ2 hr0
        obtain ⟨k, hk, rfl, rfl, ha, hb, hc, hd, hr, hz3, hB⟩ := hrel
        by_cases hlk : k < 4
        · have c1 := ha.at_ (i := i) (by omega)
          rw [HX.out] at c1
          have c2 := hb.at_ (i := k) (by omega)
          have f1 := hr.fr (1 + (i + k))
          have c3 := hr.at_ (i := i + k) (by omega)
          have l2 := dig_lt n k
          have l3 := HML.out k
          have a1 := Lib.hid (HM.out k)
          have a2 := Lib.hid (fun j => HS.out k j)
          have k1 : (0 : Int) ≤ (k : Int) := by omega
          have k2 : (k : Int) < 4 := by omega
          generalize dig n k = y at *
          generalize hcc : mcar x n k = c at *
          clear hcc
          have hxy : x * y ≤ 65535 * 65535 := Nat.mul_le_mul (by omega) (by omega)
          obtain ⟨p, hp⟩ : ∃ p, p = x * y := ⟨_, rfl⟩
          rw [← hp] at hxy a1 a2
          have q1 : IntKind.u64.wrap ((x : Int) * (y : Int)) = (p : Int) := by rw [hp, ← Int.natCast_mul, IntWalk.u64_in _ (by rw [hp] at hxy; omega)]
          clear hp
          have q2 : IntKind.u64.wrap ((p : Int) + (c : Int)) = (p : Int) + (c : Int) := IntWalk.u64_in _ (by omega)
          go_wp2_with fail
          go_quiet (fail)
          clear q1 q2
          go_wp2_with fail
          go_roundw
          case rel =>
            refine ⟨k + 1, by omega, by go_num, by rw [← a1.out]; go_num, ?_, ?_, ?_, ?_, ?_, ?_, ?_⟩
            · exact (ha.drewN nq).far (by simp; omega) _
            · exact (hb.drewN nq).far (by simp; omega) _
            · exact (hc.drewN nq).far (by simp; omega) _
            · exact (hd.drewN nq).far (by simp; omega) _
            · have := ((hr.drewN nq).set_ (i := i + k) (by omega) ((p + c) % 65536)).congr (fun j _ => a2.out j)
              simpa using this
            · simpa using hz3
            · exact (below_drewN hB nq).setCell (by simp; omega) _
          case measure => simp [intOf]; omega
        · obtain rfl : k = 4 := by omega
          have f1 := hr.fr (1 + (i + 4))
          have c3 := hr.at_ (i := i + 4) (by omega)
          have l3 := HML.out 4
          have a2 := Lib.hid HC.out
          generalize hcc : mcar x n 4 = c at *
          clear hcc
          go_upto_region 14 with fail
          have hr' := (hr.set_ (i := i + 4) (by omega) c).congr (fun j _ => a2.out j)
          have ha' := ha.far (p := ⟨r, 1 + (i + 4), none⟩) (by simp; omega) (.int .u64 c)
          have hb' := hb.far (p := ⟨r, 1 + (i + 4), none⟩) (by simp; omega) (.int .u64 c)
          have hc' := hc.far (p := ⟨r, 1 + (i + 4), none⟩) (by simp; omega) (.int .u64 c)
          have hd' := hd.far (p := ⟨r, 1 + (i + 4), none⟩) (by simp; omega) (.int .u64 c)
          have hB' : Below w.heap.size w (wr.setCell ⟨r, 1 + (i + 4), none⟩ (.int .u64 c)) := hB.setCell (by simp; omega) _
          have hz4 : r + 1 ≤ (wr.setCell ⟨r, 1 + (i + 4), none⟩ (.int .u64 c)).heap.size := by simpa using hz3
          clear ha hb hc hd hr hB f1 c3 hz3
          generalize wr.setCell ⟨r, 1 + (i + 4), none⟩ (.int .u64 c) = W4 at *
          have hi5 : Hid (i + 1 ≤ 4) := Lib.hid (by omega)
          go_wp2_with (first | (refine wpList_load_blk (by rfl) 195 _ (by rfl) (w.heap.size + 1 + 1 + 1) (by rfl) _ _ _ hd' Try.underlying195 (by rfl) infoW ?_) | (refine wpList_load_blk (by rfl) 195 _ (by rfl) r (by rfl) _ _ _ hr' Try.underlying195 (by rfl) infoW ?_))
          refine (pP.out _ _ _).mono ?_
          rintro e W5 ⟨rfl, hB5⟩
          have ha5 := ha'.below hB5 ha'.lt
          have hb5 := hb'.below hB5 hb'.lt
          have hc5 := hc'.below hB5 hc'.lt
          have hd5 := hd'.below hB5 hd'.lt
          have hz5 := hB5.size
          have HB5 := Lib.hid (hB'.trans (hB5.mono hB'.size))
          clear ha' hb' hc' hd' hr' hB' hB5
          go_wp2_with (refine wpList_store_blk (by rfl) 195 _ _ (by rfl) (w.heap.size + 1 + 1 + 1) (wcs false (dig (m % 65536 ^ i * n + 65536 ^ i * (x * n)))) (by rfl) (by rfl) _ _ hd5 infoW (by rfl) (wcs_one _ _) ?_; intro W6 hd6 ht6)
          rw [HE.out] at hd6
          have hz6 := ht6.size
          go_roundw
          case rel => exact ⟨i + 1, by omega, by go_num, Blk.touch ha5 ht6 (by omega), Blk.touch hb5 ht6 (by omega), Blk.touch hc5 ht6 (by omega), hd6, by omega, HB5.out.trans (ht6.below HB5.out.size (fun k hk => by omega))⟩
          case measure => simp [intOf]; omega
    · obtain rfl : i = 4 := by omega
      rw [Nat.mod_eq_of_lt HM.out] at hd
      have hs : (sa != sb) = (!(sa == sb)) := rfl
      have k0 := ha.cells.1
      have k1 := hb.cells.1
      have hd' := setb wo _ false (sa != sb) _ hd
      have f0 := hd.fr 0
      have d0 := hd.cells.1
      have hc' := hc.far (p := ⟨w.heap.size + 1 + 1 + 1, 0, none⟩) (by simp) (.bool (sa != sb))
      have hB' : Below w.heap.size w (wo.setCell ⟨w.heap.size + 1 + 1 + 1, 0, none⟩ (.bool (sa != sb))) := hB.setCell (by simp; omega) _
      clear ha hb hc hd hB hs
      obtain ⟨sx, hsx⟩ : ∃ sx, sx = (sa != sb) := ⟨_, rfl⟩
      have hsx' : (!(sa == sb)) = sx := by rw [hsx]; rfl
      rw [← hsx] at hd' hc' hB'
      have HSX := Lib.hid hsx
      clear hsx
      go_upto_region 16 with fail
      clear hsx'
      generalize wo.setCell ⟨w.heap.size + 1 + 1 + 1, 0, none⟩ (.bool sx) = W4 at *
      clear f0 d0 k0 k1
      go_wp2_with (first | (refine wpList_load_blk (by rfl) 195 _ (by rfl) (w.heap.size + 1 + 1 + 1) (by rfl) _ _ _ hd' Try.underlying195 (by rfl) infoW ?_) | (refine wpList_store_blk (by rfl) 195 _ _ (by rfl) (w.heap.size + 1 + 1) (wcs sx (dig (m * n))) (by rfl) (by rfl) _ _ hc' infoW (by rfl) (wcs_one _ _) ?_; intro W6 hd6 ht6))
      refine bodyPost_ret (v := .agg (wcs sx (dig (m * n)))) (results_blk Try.results140 _ _ (w.heap.size + 1 + 1) _ _ _ (by rfl) hd6 Try.underlying195 (by rfl) infoW) rfl ⟨by rw [HSX.out], ?_⟩
      exact hB'.trans (ht6.below hB'.size (fun k hk => by omega))

def partHi (s : Bool) (m : Nat) : Int := if s = true ∧ m ≠ 0 then -1 else 0
def partLo (s : Bool) (m : Nat) : Int := if s = true ∧ m ≠ 0 then 18446744073709551616 - (m : Int) else m
set_option maxRecDepth 100000 in
set_option maxHeartbeats 4000000 in
theorem parts_any (w : World) (s : Bool) (m : Nat) (hm : m < 18446744073709551616) :
    Calls Try.prog 139 #[wv s m] w fun e w' => e = .returned (.tuple #[.int .i64 (partHi s m), .int .u64 (partLo s m)]) ∧ Below w.heap.size w w' := by
  obtain ⟨W1, hW1, ha, hB⟩ : ∃ W1, W1 = w.alloc (.cells (wcs s (dig m)) 195) ∧ WB W1 w.heap.size s (dig m) ∧ Below w.heap.size w W1 := ⟨_, rfl, WB.new _ _ _, (Below.refl _ w).alloc (Nat.le_refl _) _⟩
  have k0 := ha.cells.1
  have HH := Lib.hid (fun j => dig_big' (n := m) (i := 4) (j := j) hm)
  unfold wv
  go_enter Try.func139, Try.ntmps139
  go_upto_region 1 with fail
  rw [← hW1]
  clear hW1
  go_wp2_with fail
  go_loopw [4, 5, 6] (fun hv lv iv wr => ∃ k : Nat, k ≤ 4 ∧ iv = .int .i64 ((k : Int) - 1) ∧ hv = .int .u64 0 ∧ lv = .int .u64 ((m / 65536 ^ k : Nat) : Int) ∧ wr = W1) (fun _ _ iv _ => (intOf iv + 1).toNat)
  case atStart => exact ⟨4, by omega, rfl, rfl, by rw [show m / 65536 ^ 4 = 0 from Nat.div_eq_of_lt hm]; rfl, rfl⟩
  case round =>
    obtain ⟨k, hk, rfl, rfl, rfl, rfl⟩ := hrel
    match k, hk with
    | 0, _ =>
      rw [show (((0 : Nat) : Int) - 1) = -1 from rfl, show m / 65536 ^ 0 = m by simp]
      have E1 := Lib.hid (show partHi s m = if s = true ∧ m ≠ 0 then -1 else 0 from rfl)
      have E2 := Lib.hid (show partLo s m = if s = true ∧ m ≠ 0 then 18446744073709551616 - (m : Int) else m from rfl)
      cases s
      · go_wp2_with fail
        go_ret2
        exact ⟨by rw [E1.out, E2.out]; simp, hB⟩
      · by_cases h0 : m = 0
        · subst h0
          go_wp2_with fail
          go_ret2
          exact ⟨by rw [E1.out, E2.out]; simp, hB⟩
        · have h0' : ¬ ((m : Int) = 0) := by omega
          have hw : IntKind.u64.wrap (-(m : Int)) = 18446744073709551616 - (m : Int) := by simp [IntKind.wrap, IntKind.bits, IntKind.signed]; omega
          have HF := Lib.hid h0
          clear h0
          go_wp2_with fail
          go_ret2
          exact ⟨by rw [E1.out, E2.out]; simp [HF.out], hB⟩
    | j + 1, hj4 =>
      have hj : j < 4 := by omega
      rw [show (((j + 1 : Nat) : Int) - 1) = (j : Int) by omega]
      have c1 := ha.at_ (i := j) (by omega)
      have c2 := ha.at_ (i := j + 4) (by omega)
      rw [HH.out (j + 4) (by omega)] at c2
      have l1 := dig_lt m j
      have hs1 := div_succ m j
      have hle : m / 65536 ^ j ≤ m := Nat.div_le_self _ _
      have i1 : (0 : Int) ≤ (j : Int) := by omega
      have i2 : (j : Int) < 4 := by omega
      have HS := Lib.hid hs1
      generalize dig m j = x at c1 l1 hs1 HS
      generalize m / 65536 ^ (j + 1) = t at hs1 HS ⊢
      have b1 : x + 65536 * t < 18446744073709551616 := by omega
      clear hs1 hle
      have q1 : IntKind.u64.wrap ((t : Int) * 65536) = (t : Int) * 65536 := IntWalk.u64_in _ (by omega)
      have q2 : IntKind.u64.wrap ((t : Int) * 65536 + (x : Int)) = (t : Int) * 65536 + (x : Int) := IntWalk.u64_in _ (by omega)
      go_wp2_with fail
      go_roundw
      case rel => exact ⟨j, by omega, by simp <;> rfl, by first | rfl | simp, by rw [HS.out]; simp [Int.mul_comm, Int.add_comm], trivial⟩
      case measure => simp [intOf] <;> omega
theorem dec_natAbs (v : Int) : sv (decide (v < 0)) v.natAbs = v := sv_of v
end Go.Proofs.Ytlhoffhagfhbcaa.Num
namespace Go.Proofs.Ytlhoffhagfhbcaa.Gm
open Go.RowKit Go.Proofs.Ytlhoffhagfhbcaa.Num
set_option maxRecDepth 100000 in
set_option maxHeartbeats 2000000 in
theorem rmul_any (w : World) (v : Int) (h0 : -196608 ≤ v) (h1 : v ≤ 196608) :
    Calls Try.prog 128 #[.int .i64 v, .int .i64 57344] w fun e w' => e = .returned (.int .i64 (mulV v)) ∧ Below w.heap.size w w' := by
  have pA := Lib.hid (of_any w v (by omega) (by omega))
  have pB := Lib.hid (fun w => of_any w 57344 (by omega) (by omega))
  have hv : v.natAbs ≤ 196608 := by omega
  have pC := Lib.hid (fun w => times_any w (decide (v < 0)) (decide ((57344 : Int) < 0)) v.natAbs (Int.natAbs 57344) (by omega) (by decide))
  have pD := Lib.hid (fun w => parts_any w (decide (v < 0) != decide ((57344 : Int) < 0)) (v.natAbs * Int.natAbs 57344) (by simp; omega))
  have e1 : (decide (v < 0) != decide ((57344 : Int) < 0)) = decide (v < 0) := by simp
  have e2 : Int.natAbs 57344 = 57344 := rfl
  rw [e1] at pC pD
  by_cases c : v < 0
  · have E1 := Lib.hid (show partHi (decide (v < 0)) (v.natAbs * Int.natAbs 57344) = -1 by unfold partHi; rw [if_pos ⟨by simpa using c, by rw [e2]; omega⟩])
    have E2 := Lib.hid (show partLo (decide (v < 0)) (v.natAbs * Int.natAbs 57344) = v * 57344 + 18446744073709551616 by unfold partLo; rw [if_pos ⟨by simpa using c, by rw [e2]; omega⟩, e2]; omega)
    obtain ⟨t, ht⟩ : ∃ t : Nat, (t : Int) = (v * 57344 + 18446744073709551616) / 65536 := ⟨((v * 57344 + 18446744073709551616) / 65536).toNat, by omega⟩
    have t1 : t < 281474976710656 := by omega
    have E := Lib.hid (show mulV v = -281474976710656 + (t : Int) by unfold mulV; omega)
    obtain ⟨l, hl⟩ : ∃ l : Int, l = v * 57344 + 18446744073709551616 := ⟨_, rfl⟩
    rw [← hl] at ht E2
    have q1 : l / 65536 = (t : Int) := ht.symm
    have l0 : 0 ≤ l := by omega
    have q2 : IntKind.i64.wrap (t : Int) = (t : Int) := IntWalk.i64_in _ (by omega)
    clear ht hl e1 e2
    generalize decide (v < 0) = s at *
    generalize v.natAbs = m at *
    generalize Int.natAbs 57344 = k at *
    generalize decide ((57344 : Int) < 0) = s2 at *
    rw [E1.out, E2.out] at pD
    go_enter Try.func128, Try.ntmps128
    go_wp2_with fail
    refine pA.out.mono ?_
    rintro e w1 ⟨rfl, hb1⟩
    go_wp2_with fail
    refine (pB.out _).mono ?_
    rintro e w2 ⟨rfl, hb2⟩
    go_wp2_with fail
    refine (pC.out _).mono ?_
    rintro e w3 ⟨rfl, hb3⟩
    go_wp2_with fail
    refine (pD.out _).mono ?_
    rintro e w4 ⟨rfl, hb4⟩
    go_wp2_with fail
    go_ret
    have s1 := hb1.size
    have s2 := hb2.size
    have s3 := hb3.size
    exact ⟨ret_int E.out.symm, ((hb1.trans (hb2.mono (by omega))).trans (hb3.mono (by omega))).trans (hb4.mono (by omega))⟩
  · have E1 := Lib.hid (show partHi (decide (v < 0)) (v.natAbs * Int.natAbs 57344) = 0 by unfold partHi; rw [if_neg (by simp; omega)])
    have E2 := Lib.hid (show partLo (decide (v < 0)) (v.natAbs * Int.natAbs 57344) = v * 57344 by unfold partLo; rw [if_neg (by simp; omega), e2]; omega)
    obtain ⟨t, ht⟩ : ∃ t : Nat, (t : Int) = v * 57344 / 65536 := ⟨(v * 57344 / 65536).toNat, by omega⟩
    have t1 : t < 281474976710656 := by omega
    have E := Lib.hid (show mulV v = (t : Int) by unfold mulV; omega)
    obtain ⟨l, hl⟩ : ∃ l : Int, l = v * 57344 := ⟨_, rfl⟩
    rw [← hl] at ht E2
    have q1 : l / 65536 = (t : Int) := ht.symm
    have l0 : 0 ≤ l := by omega
    have q2 : IntKind.i64.wrap (t : Int) = (t : Int) := IntWalk.i64_in _ (by omega)
    clear ht hl e1 e2
    generalize decide (v < 0) = s at *
    generalize v.natAbs = m at *
    generalize Int.natAbs 57344 = k at *
    generalize decide ((57344 : Int) < 0) = s2 at *
    rw [E1.out, E2.out] at pD
    go_enter Try.func128, Try.ntmps128
    go_wp2_with fail
    refine pA.out.mono ?_
    rintro e w1 ⟨rfl, hb1⟩
    go_wp2_with fail
    refine (pB.out _).mono ?_
    rintro e w2 ⟨rfl, hb2⟩
    go_wp2_with fail
    refine (pC.out _).mono ?_
    rintro e w3 ⟨rfl, hb3⟩
    go_wp2_with fail
    refine (pD.out _).mono ?_
    rintro e w4 ⟨rfl, hb4⟩
    go_wp2_with fail
    go_ret
    have s1 := hb1.size
    have s2 := hb2.size
    have s3 := hb3.size
    exact ⟨ret_int E.out.symm, ((hb1.trans (hb2.mono (by omega))).trans (hb3.mono (by omega))).trans (hb4.mono (by omega))⟩
end Go.Proofs.Ytlhoffhagfhbcaa.Gm
namespace Go.Proofs.Ytlhoffhagfhbcaa.Gm
open Go.RowKit Go.Proofs.Ytlhoffhagfhbcaa.Num
set_option linter.all false

/-- A body's cells. -/
structure BodyAt (w : World) (g o : Nat) (b : Body) : Prop where
  x : w.cell? ⟨g, o, none⟩ = some (.int .i64 b.x)
  y : w.cell? ⟨g, o + 1, none⟩ = some (.int .i64 b.y)
  vx : w.cell? ⟨g, o + 2, none⟩ = some (.int .i64 b.vx)
  vy : w.cell? ⟨g, o + 3, none⟩ = some (.int .i64 b.vy)
  life : w.cell? ⟨g, o + 4, none⟩ = some (.int .i64 b.life)
  cool : w.cell? ⟨g, o + 5, none⟩ = some (.int .i64 b.cool)
  facing : w.cell? ⟨g, o + 6, none⟩ = some (.int .i64 b.facing)
  fr : ∀ j, w.frozen? ⟨g, j, none⟩ = false
theorem SB.bodyAt {w : World} {g : Nat} {t : TypeId} {f : F} (h : SB w g t f) {i : Nat} (hi : i < 2) : BodyAt w g (2 + i * 7) (bod f (2 + i * 7)) :=
  ⟨h.body hi (j := 0) (by omega), h.body hi (j := 1) (by omega), h.body hi (j := 2) (by omega), h.body hi (j := 3) (by omega), h.body hi (j := 4) (by omega), h.body hi (j := 5) (by omega), h.body hi (j := 6) (by omega), fun j => h.fr j⟩
/-- A state in which one body is this one. -/
def BS (w : World) (g : Nat) (t : TypeId) (f : F) (i : Nat) (b : Body) : Prop := SB w g t (setB f (2 + i * 7) b)
theorem setB_same (f : F) (o : Nat) : setB f o (bod f o) = f := by
  funext k
  unfold setB bod put
  (repeat' split) <;> (first | rfl | (subst_vars; rfl))
section
variable {w w' : World} {g : Nat} {t : TypeId} {f : F} {i : Nat} {b : Body}
theorem BS.of (h : SB w g t f) (i : Nat) : BS w g t f i (bod f (2 + i * 7)) := by unfold BS; rw [setB_same]; exact h
theorem BS.cells (h : BS w g t f i b) (hi : i < 2) : BodyAt w g (2 + i * 7) b := by
  have := SB.bodyAt h hi
  rwa [setB_bod] at this
theorem BS.drew (h : BS w g t f i b) : BS w.drew g t f i b := h
theorem BS.drewN (h : BS w g t f i b) (n : Nat) : BS (w.drewN n) g t f i b := h
theorem BS.x (h : BS w g t f i b) (hi : i < 2) (v : Int) : BS (w.setCell ⟨g, 2 + i * 7, none⟩ (.int .i64 v)) g t f i { b with x := v } := by
  have := SB.setInt h (j := 2 + i * 7) (by omega) (by omega) (by omega) v
  unfold BS
  have e : put (setB f (2 + i * 7) b) (2 + i * 7) v = setB f (2 + i * 7) { b with x := v } := by
    funext k; unfold setB put; (repeat' split) <;> (first | rfl | omega)
  rwa [e] at this
theorem BS.y (h : BS w g t f i b) (hi : i < 2) (v : Int) : BS (w.setCell ⟨g, 2 + i * 7 + 1, none⟩ (.int .i64 v)) g t f i { b with y := v } := by
  have := SB.setInt h (j := 2 + i * 7 + 1) (by omega) (by omega) (by omega) v
  unfold BS
  have e : put (setB f (2 + i * 7) b) (2 + i * 7 + 1) v = setB f (2 + i * 7) { b with y := v } := by
    funext k; unfold setB put; (repeat' split) <;> (first | rfl | omega)
  rwa [e] at this
theorem BS.vx (h : BS w g t f i b) (hi : i < 2) (v : Int) : BS (w.setCell ⟨g, 2 + i * 7 + 2, none⟩ (.int .i64 v)) g t f i { b with vx := v } := by
  have := SB.setInt h (j := 2 + i * 7 + 2) (by omega) (by omega) (by omega) v
  unfold BS
  have e : put (setB f (2 + i * 7) b) (2 + i * 7 + 2) v = setB f (2 + i * 7) { b with vx := v } := by
    funext k; unfold setB put; (repeat' split) <;> (first | rfl | omega)
  rwa [e] at this
theorem BS.vy (h : BS w g t f i b) (hi : i < 2) (v : Int) : BS (w.setCell ⟨g, 2 + i * 7 + 3, none⟩ (.int .i64 v)) g t f i { b with vy := v } := by
  have := SB.setInt h (j := 2 + i * 7 + 3) (by omega) (by omega) (by omega) v
  unfold BS
  have e : put (setB f (2 + i * 7) b) (2 + i * 7 + 3) v = setB f (2 + i * 7) { b with vy := v } := by
    funext k; unfold setB put; (repeat' split) <;> (first | rfl | omega)
  rwa [e] at this
theorem BS.facing (h : BS w g t f i b) (hi : i < 2) (v : Int) : BS (w.setCell ⟨g, 2 + i * 7 + 6, none⟩ (.int .i64 v)) g t f i { b with facing := v } := by
  have := SB.setInt h (j := 2 + i * 7 + 6) (by omega) (by omega) (by omega) v
  unfold BS
  have e : put (setB f (2 + i * 7) b) (2 + i * 7 + 6) v = setB f (2 + i * 7) { b with facing := v } := by
    funext k; unfold setB put; (repeat' split) <;> (first | rfl | omega)
  rwa [e] at this
end
abbrev TG (g : Nat) (w w' : World) : Prop := Touch (fun k => k = g) w w'
theorem TG.set {w w' : World} {g : Nat} (h : TG g w w') (o : Nat) (v : Value) : TG g w (w'.setCell ⟨g, o, none⟩ v) := h.setCell (.inl rfl) v

set_option maxRecDepth 100000 in
set_option maxHeartbeats 2000000 in
theorem walk_any (w : World) (g : Nat) (t : TypeId) (f : F) (i n : Nat) (b : Body) (hi : i < 2) (hn : n < 65536) (hS : BS w g t f i b) (hv0 : -196608 ≤ b.vx) (hv1 : b.vx ≤ 196608) :
    Calls Try.prog 73 #[.pointer (some ⟨g, 2 + i * 7, none⟩), .int .u16 n] w fun e w' => e = .returned (.tuple #[]) ∧ BS w' g t f i (walkB b n) ∧ TG g w w' := by
  have a1 := and1 hn
  have a2 := and2 hn
  obtain ⟨-, -, c2, -, -, -, c6, fr⟩ := hS.cells hi
  have f2 := fr (2 + i * 7 + 2)
  have f6 := fr (2 + i * 7 + 6)
  have HS := Lib.hid hS
  have HI := Lib.hid hi
  clear hS fr hi
  by_cases h1 : n % 2 = n / 2 % 2
  · have E := Lib.hid (show walkB b n = { b with vx := mulV b.vx } by unfold walkB; rw [if_pos h1])
    have pM := Lib.hid (fun w => fmul_any w b.vx hv0 hv1)
    have hz : n % 2 = 0 ∨ n % 2 = 1 := by omega
    rcases hz with h | h
    all_goals
      have h' : n / 2 % 2 = _ := h1.symm.trans h
      rw [h] at a1
      rw [h'] at a2
      simp only [Nat.zero_mul, Nat.one_mul] at a2
      have a1' : bits .and .u16 (n : Int) 1 = _ := a1
      have a2' : bits .and .u16 (n : Int) 2 = _ := a2
      clear a1 a2 h h' h1
      go_enter Try.func73, Try.ntmps73
      go_wp2_with fail
      refine (pM.out _).mono ?_
      rintro e w' ⟨rfl, rfl⟩
      go_wp2_with fail
      refine bodyPost_ret (results_none rfl _ _ _) rfl ⟨rfl, ?_⟩
      rw [E.out]
      exact ⟨HS.out.vx HI.out _, TG.set (Touch.refl _ _) _ _⟩
  · have hz : (n % 2 = 1 ∧ n / 2 % 2 = 0) ∨ (n % 2 = 0 ∧ n / 2 % 2 = 1) := by omega
    have hh0 := hold_bd (b.vx + -16384)
    have hh1 := hold_bd (b.vx + 16384)
    rcases hz with ⟨h, h'⟩ | ⟨h, h'⟩
    · have E := Lib.hid (show walkB b n = { b with facing := -1, vx := clampV (hold (b.vx + -16384)) (-196608) 196608 } by unfold walkB; rw [if_neg h1, if_pos h])
      rw [h] at a1
      rw [h'] at a2
      simp only [Nat.zero_mul, Nat.one_mul] at a2
      have a1' : bits .and .u16 (n : Int) 1 = _ := a1
      have a2' : bits .and .u16 (n : Int) 2 = _ := a2
      have pA := Lib.hid (fun w => wadd_any w b.vx (-16384) (by omega) (by omega) (by omega) (by omega))
      generalize hold (b.vx + -16384) = q at *
      have pC := Lib.hid (fun w => clamp_any w q (-196608) 196608)
      clear a1 a2 h h' h1
      go_enter Try.func73, Try.ntmps73
      go_wp2_with fail
      refine (pA.out _).mono ?_
      rintro e w' ⟨rfl, rfl⟩
      go_wp2_with fail
      refine (pC.out _).mono ?_
      rintro e w' ⟨rfl, rfl⟩
      go_wp2_with fail
      go_end0
      rw [E.out]
      exact ⟨rfl, (HS.out.facing HI.out _).vx HI.out _, TG.set (TG.set (Touch.refl _ _) _ _) _ _⟩
    · have E := Lib.hid (show walkB b n = { b with facing := 1, vx := clampV (hold (b.vx + 16384)) (-196608) 196608 } by unfold walkB; rw [if_neg h1, if_neg (by omega)])
      rw [h] at a1
      rw [h'] at a2
      simp only [Nat.zero_mul, Nat.one_mul] at a2
      have a1' : bits .and .u16 (n : Int) 1 = _ := a1
      have a2' : bits .and .u16 (n : Int) 2 = _ := a2
      have pA := Lib.hid (fun w => wadd_any w b.vx 16384 (by omega) (by omega) (by omega) (by omega))
      generalize hold (b.vx + 16384) = q at *
      have pC := Lib.hid (fun w => clamp_any w q (-196608) 196608)
      clear a1 a2 h h' h1
      go_enter Try.func73, Try.ntmps73
      go_wp2_with fail
      refine (pA.out _).mono ?_
      rintro e w' ⟨rfl, rfl⟩
      go_wp2_with fail
      refine (pC.out _).mono ?_
      rintro e w' ⟨rfl, rfl⟩
      go_wp2_with fail
      go_end0
      rw [E.out]
      exact ⟨rfl, (HS.out.facing HI.out _).vx HI.out _, TG.set (TG.set (Touch.refl _ _) _ _) _ _⟩

end Go.Proofs.Ytlhoffhagfhbcaa.Gm
namespace Go.Proofs.Ytlhoffhagfhbcaa.Gm
open Go.RowKit Go.Proofs.Ytlhoffhagfhbcaa.Num
set_option linter.all false

set_option maxRecDepth 100000 in
set_option maxHeartbeats 4000000 in
theorem fall_any (w : World) (g : Nat) (t : TypeId) (f : F) (i n : Nat) (b : Body) (hi : i < 2) (hn : n < 65536) (hS : BS w g t f i b) (hb : BodyOk b) :
    Calls Try.prog 74 #[.pointer (some ⟨g, 2 + i * 7, none⟩), .int .u16 n] w fun e w' => e = .returned (.tuple #[]) ∧ BS w' g t f i (fallB b n) ∧ TG g w w' := by
  have a4 := and4 hn
  have HI := Lib.hid hi
  have hj := jumpV_in hb n
  have hd := dropV_in hb n
  have hy0 := hb.y0
  have hy1 := hb.y1
  have HJ : (n / 4 % 2 = 1 ∧ (b.y == 0) = true ∧ Hid (jumpV b n = 327680)) ∨ (n / 4 % 2 = 1 ∧ (b.y == 0) = false ∧ Hid (jumpV b n = b.vy)) ∨ (n / 4 % 2 = 0 ∧ Hid (jumpV b n = b.vy)) := by
    unfold jumpV
    by_cases c : n / 4 % 2 = 1
    · by_cases c2 : b.y = 0
      · exact .inl ⟨c, by simpa using c2, Lib.hid (by rw [if_pos ⟨c, c2⟩])⟩
      · exact .inr (.inl ⟨c, by simpa using c2, Lib.hid (by rw [if_neg (fun h => c2 h.2)])⟩)
    · exact .inr (.inr ⟨by omega, Lib.hid (by rw [if_neg (fun h => c h.1)])⟩)
  have HD : (0 < b.y ∧ Hid (dropV b n = hold (jumpV b n - 21845))) ∨ (¬ 0 < b.y ∧ (jumpV b n == 0) = false ∧ Hid (dropV b n = hold (jumpV b n - 21845))) ∨ (¬ 0 < b.y ∧ (jumpV b n == 0) = true ∧ Hid (dropV b n = jumpV b n)) := by
    unfold dropV
    by_cases c : 0 < b.y
    · exact .inl ⟨c, Lib.hid (by rw [if_pos (.inl c)])⟩
    · by_cases c2 : jumpV b n = 0
      · exact .inr (.inr ⟨c, by simpa using c2, Lib.hid (by rw [if_neg (by omega)])⟩)
      · exact .inr (.inl ⟨c, by simpa using c2, Lib.hid (by rw [if_pos (.inr c2)])⟩)
  have HF := Lib.hid (show fallB b n = if hold (b.y + dropV b n) ≤ 0 then { b with y := 0, vy := 0 } else { b with y := hold (b.y + dropV b n), vy := dropV b n } from rfl)
  generalize fallB b n = fb at *
  generalize dropV b n = dv at *
  generalize jumpV b n = jv at *
  have HD' := Lib.hid HD
  clear HD hb
  obtain ⟨-, c1, -, c3, -, -, -, fr⟩ := hS.cells hi
  have f3 := fr (2 + i * 7 + 3)
  have HS := Lib.hid hS
  clear hS fr hi
  have K : ∃ (q : Bool) (q2 : Bool), True := ⟨true, true, trivial⟩
  clear K
  rcases HJ with ⟨h, h2, E⟩ | ⟨h, h2, E⟩ | ⟨h, E⟩
  all_goals
    rw [h] at a4
    simp only [Nat.zero_mul, Nat.one_mul] at a4
    have a4' : bits .and .u16 (n : Int) 4 = _ := a4
    clear a4 h
    go_enter Try.func74, Try.ntmps74
    go_upto_region 2 with fail
    first
      | (have B1 : BS (w.setCell ⟨g, 2 + i * 7 + 3, none⟩ (.int .i64 327680)) g t f i { b with vy := jv } := (by rw [E.out]; with_reducible exact HS.out.vy HI.out 327680)
         have T1 : TG g w (w.setCell ⟨g, 2 + i * 7 + 3, none⟩ (.int .i64 327680)) := TG.set (Touch.refl _ _) _ _
         generalize w.setCell ⟨g, 2 + i * 7 + 3, none⟩ (.int .i64 327680) = W1 at *)
      | (have B1 : BS w g t f i { b with vy := jv } := (by rw [E.out]; with_reducible exact HS.out)
         have T1 : TG g w w := Touch.refl _ _)
    clear c1 c3 f3 a4'
    obtain ⟨-, y1, -, v1, -, -, -, fr1⟩ := B1.cells HI.out
    have f3 := fr1 (2 + i * 7 + 3)
    have f1 := fr1 (2 + i * 7 + 1)
    have pS := Lib.hid (fun w => wsub_any w jv 21845 hj.1 hj.2 (by omega) (by omega))
    have B1' := Lib.hid B1
    clear B1 fr1
    have HD2 := HD'.out
    clear HD'
    rcases HD2 with ⟨hy, E2⟩ | ⟨hy, hz, E2⟩ | ⟨hy, hz, E2⟩
    · try (exfalso; simp only [beq_iff_eq, beq_eq_false_iff_ne, ne_eq] at h2; omega)
      all_goals
        go_wp2_with fail
        refine (pS.out _).mono ?_
        rintro e w' ⟨rfl, rfl⟩
        go_upto_region 4 with fail
        have B2 := B1'.out.vy HI.out (hold (jv - 21845))
        have T2 := TG.set T1 (2 + i * 7 + 3) (.int .i64 (hold (jv - 21845)))
        have E3 := Lib.hid E2.out.symm
        generalize hold (jv - 21845) = vv at *
        first
          | generalize W1.setCell ⟨g, 2 + i * 7 + 3, none⟩ (.int .i64 vv) = W2 at *
          | generalize w.setCell ⟨g, 2 + i * 7 + 3, none⟩ (.int .i64 vv) = W2 at *
        have HF2 := HF
        rw [← E3.out] at HF2 hd
        clear T1 B1' pS E E2 hy HF E3 y1 v1 f1 f3
        obtain ⟨-, y1, -, v1, -, -, -, fr1⟩ := B2.cells HI.out
        have f3 := fr1 (2 + i * 7 + 3)
        have f1 := fr1 (2 + i * 7 + 1)
        clear fr1
        have hA : ∀ W, Calls Try.prog 103 #[.int .i64 b.y, .int .i64 vv] W fun e w'' => e = .returned (.int .i64 (hold (b.y + vv))) ∧ w'' = W := fun W => (wadd_any W b.y vv (by omega) (by omega) (by omega) (by omega)).mono (fun _ _ h => ⟨h.1, h.2.symm⟩)
        have pA := Lib.hid hA
        clear hA
        have hb1 := hold_bd (b.y + vv)
        refine wp_region_still_tail 12 (by kernel_rfl) (by kernel_rfl) ?_
        simp only [List.take_succ_cons, List.take_zero, List.drop_succ_cons, List.drop_zero]
        repeat (first | still_step | still_call (pA.out _))
        refine wpStill_nil ?_
        change wpList _ _ _ _ _ (World.drew _)
        generalize hold (b.y + vv) = yv at *
        have B3 := B2.y HI.out yv
        have T3 := TG.set T2 (2 + i * 7 + 1) (.int .i64 yv)
        clear B2 T2 pA
        by_cases hc : yv ≤ 0
        · have HF3 := HF2.out
          rw [if_pos hc] at HF3
          have HF4 := Lib.hid HF3
          clear HF3
          have B4 := ((B3.y HI.out 0).vy HI.out 0).drew
          have T4 := (TG.set (TG.set T3 (2 + i * 7 + 1) (.int .i64 0)) (2 + i * 7 + 3) (.int .i64 0)).drew
          clear B3 T3 HF2
          go_wp2_with fail
          go_end0
          exact ⟨rfl, by rw [HF4.out]; with_reducible exact B4, by with_reducible exact T4⟩
        · have HF3 := HF2.out
          rw [if_neg hc] at HF3
          have HF4 := Lib.hid HF3
          clear HF3
          clear HF2
          go_wp2_with fail
          go_end0
          exact ⟨rfl, by rw [HF4.out]; with_reducible exact B3.drew, by with_reducible exact T3.drew⟩
    · try (exfalso; simp only [beq_iff_eq, beq_eq_false_iff_ne, ne_eq] at h2; omega)
      all_goals
        go_wp2_with fail
        refine (pS.out _).mono ?_
        rintro e w' ⟨rfl, rfl⟩
        go_upto_region 4 with fail
        have B2 := B1'.out.vy HI.out (hold (jv - 21845))
        have T2 := TG.set T1 (2 + i * 7 + 3) (.int .i64 (hold (jv - 21845)))
        have E3 := Lib.hid E2.out.symm
        generalize hold (jv - 21845) = vv at *
        first
          | generalize W1.setCell ⟨g, 2 + i * 7 + 3, none⟩ (.int .i64 vv) = W2 at *
          | generalize w.setCell ⟨g, 2 + i * 7 + 3, none⟩ (.int .i64 vv) = W2 at *
        have HF2 := HF
        rw [← E3.out] at HF2 hd
        clear hz T1 B1' pS E E2 hy HF E3 y1 v1 f1 f3
        obtain ⟨-, y1, -, v1, -, -, -, fr1⟩ := B2.cells HI.out
        have f3 := fr1 (2 + i * 7 + 3)
        have f1 := fr1 (2 + i * 7 + 1)
        clear fr1
        have hA : ∀ W, Calls Try.prog 103 #[.int .i64 b.y, .int .i64 vv] W fun e w'' => e = .returned (.int .i64 (hold (b.y + vv))) ∧ w'' = W := fun W => (wadd_any W b.y vv (by omega) (by omega) (by omega) (by omega)).mono (fun _ _ h => ⟨h.1, h.2.symm⟩)
        have pA := Lib.hid hA
        clear hA
        have hb1 := hold_bd (b.y + vv)
        refine wp_region_still_tail 12 (by kernel_rfl) (by kernel_rfl) ?_
        simp only [List.take_succ_cons, List.take_zero, List.drop_succ_cons, List.drop_zero]
        repeat (first | still_step | still_call (pA.out _))
        refine wpStill_nil ?_
        change wpList _ _ _ _ _ (World.drew _)
        generalize hold (b.y + vv) = yv at *
        have B3 := B2.y HI.out yv
        have T3 := TG.set T2 (2 + i * 7 + 1) (.int .i64 yv)
        clear B2 T2 pA
        by_cases hc : yv ≤ 0
        · have HF3 := HF2.out
          rw [if_pos hc] at HF3
          have HF4 := Lib.hid HF3
          clear HF3
          have B4 := ((B3.y HI.out 0).vy HI.out 0).drew
          have T4 := (TG.set (TG.set T3 (2 + i * 7 + 1) (.int .i64 0)) (2 + i * 7 + 3) (.int .i64 0)).drew
          clear B3 T3 HF2
          go_wp2_with fail
          go_end0
          exact ⟨rfl, by rw [HF4.out]; with_reducible exact B4, by with_reducible exact T4⟩
        · have HF3 := HF2.out
          rw [if_neg hc] at HF3
          have HF4 := Lib.hid HF3
          clear HF3
          clear HF2
          go_wp2_with fail
          go_end0
          exact ⟨rfl, by rw [HF4.out]; with_reducible exact B3.drew, by with_reducible exact T3.drew⟩
    · try (exfalso; simp only [beq_iff_eq, beq_eq_false_iff_ne, ne_eq] at h2; omega)
      all_goals
        go_upto_region 4 with fail
        have B2 := B1'.out
        have T2 := T1
        have HF2 := HF
        rw [E2.out] at HF2
        have hdd := hd
        clear T1 B1' pS E E2 hy HF hz hdd
        have hA : ∀ W, Calls Try.prog 103 #[.int .i64 b.y, .int .i64 jv] W fun e w'' => e = .returned (.int .i64 (hold (b.y + jv))) ∧ w'' = W := fun W => (wadd_any W b.y jv (by omega) (by omega) (by omega) (by omega)).mono (fun _ _ h => ⟨h.1, h.2.symm⟩)
        have pA := Lib.hid hA
        clear hA
        have hb1 := hold_bd (b.y + jv)
        refine wp_region_still_tail 12 (by kernel_rfl) (by kernel_rfl) ?_
        simp only [List.take_succ_cons, List.take_zero, List.drop_succ_cons, List.drop_zero]
        repeat (first | still_step | still_call (pA.out _))
        refine wpStill_nil ?_
        change wpList _ _ _ _ _ (World.drew _)
        generalize hold (b.y + jv) = yv at *
        have B3 := B2.y HI.out yv
        have T3 := TG.set T2 (2 + i * 7 + 1) (.int .i64 yv)
        clear B2 T2 pA
        by_cases hc : yv ≤ 0
        · have HF3 := HF2.out
          rw [if_pos hc] at HF3
          have HF4 := Lib.hid HF3
          clear HF3
          have B4 := ((B3.y HI.out 0).vy HI.out 0).drew
          have T4 := (TG.set (TG.set T3 (2 + i * 7 + 1) (.int .i64 0)) (2 + i * 7 + 3) (.int .i64 0)).drew
          clear B3 T3 HF2
          go_wp2_with fail
          go_end0
          exact ⟨rfl, by rw [HF4.out]; with_reducible exact B4, by with_reducible exact T4⟩
        · have HF3 := HF2.out
          rw [if_neg hc] at HF3
          have HF4 := Lib.hid HF3
          clear HF3
          clear HF2
          go_wp2_with fail
          go_end0
          exact ⟨rfl, by rw [HF4.out]; with_reducible exact B3.drew, by with_reducible exact T3.drew⟩
end Go.Proofs.Ytlhoffhagfhbcaa.Gm
