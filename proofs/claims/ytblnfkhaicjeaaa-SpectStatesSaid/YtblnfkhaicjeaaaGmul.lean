/-
  fixed.Mul and backstayref22.Mul of a speed and 7/8; Times, Parts of the document.
-/
import Derived.Test.YtblnfkhaicjeaaaGn
namespace Go.Proofs.Ytblnfkhaicjeaaa.Gm
open Go.RowKit Go.Proofs.Ytblnfkhaicjeaaa.Num
set_option linter.all false

theorem low32 {m : Nat} (h : m < 4294967296) : bits .and .u64 (m : Int) 4294967295 = (m : Int) := by
  have := bits_and_u64_nat m 4294967295 (by omega) (by omega)
  rw [show ((4294967295 : Nat) : Int) = 4294967295 from rfl] at this
  rw [this]
  have e : m &&& 4294967295 = m := by
    have := Nat.and_two_pow_sub_one_eq_mod m 32
    rw [show (2 : Nat) ^ 32 - 1 = 4294967295 from rfl] at this
    rw [this]
    omega
  rw [e]
set_option maxHeartbeats 1000000 in
theorem abs64_any (w : World) (z : Int) (h0 : -9223372036854775808 ≤ z) (h1 : z ≤ 9223372036854775807) :
    Calls Try.prog 143 #[.int .i64 z] w fun e w' => e = .returned (.int .u64 (z.natAbs : Nat)) ∧ w = w' := by
  by_cases c : z < 0
  · obtain ⟨m, rfl⟩ : ∃ m : Nat, z = -(m : Int) := ⟨z.natAbs, by omega⟩
    have e := Lib.hid (neg_neg64 m (by omega) (by omega))
    have en : (-(m : Int)).natAbs = m := by omega
    rw [en]
    have c' : decide (-(m : Int) < 0) = true := by simpa using c
    have hm0 : 0 < m := by omega
    clear c h0 h1 en
    go_enter Try.func143, Try.ntmps143
    go_wp2
    go_ret
    exact ⟨ret_int e.out, rfl⟩
  · obtain ⟨m, rfl⟩ : ∃ m : Nat, z = (m : Int) := ⟨z.natAbs, by omega⟩
    have e : IntKind.u64.wrap (m : Int) = (m : Int) := IntWalk.u64_in _ (by omega)
    rw [Int.natAbs_natCast]
    go_enter Try.func143, Try.ntmps143
    go_wp2
    go_ret
    exact ⟨rfl, rfl⟩
set_option maxHeartbeats 2000000 in
theorem wide_any (w : World) (v : Int) (h0 : -196608 ≤ v) (h1 : v ≤ 196608) :
    Calls Try.prog 133 #[.int .i64 v, .int .i64 57344] w fun e w' => e = .returned (.tuple #[.int .i64 (if v < 0 then -1 else 0), .int .u64 (if v < 0 then v * 57344 + 18446744073709551616 else v * 57344)]) ∧ w = w' := by
  have pA := Lib.hid (fun w => abs64_any w v (by omega) (by omega))
  have pB := Lib.hid (fun w => abs64_any w 57344 (by omega) (by omega))
  have b1 : bits .and .u64 57344 4294967295 = 57344 := by decide +kernel
  have b0 : bits .and .u64 0 4294967295 = 0 := by decide +kernel
  by_cases c : v < 0
  · obtain ⟨m, rfl⟩ : ∃ m : Nat, v = -(m : Int) := ⟨v.natAbs, by omega⟩
    rw [show (-(m : Int)).natAbs = m by omega] at pA
    have q1 : (m : Int) / 4294967296 = 0 := by omega
    have q2 := low32 (m := m) (by omega)
    have q3 : IntKind.u64.wrap ((m : Int) * 57344) = (m : Int) * 57344 := IntWalk.u64_in _ (by omega)
    obtain ⟨t, ht⟩ : ∃ t : Nat, (t : Int) = (m : Int) * 57344 / 4294967296 := ⟨m * 57344 / 4294967296, by omega⟩
    have t1 : t < 10 := by omega
    have q4 : (m : Int) * 57344 / 4294967296 = (t : Int) := ht.symm
    have q5 : (t : Int) / 4294967296 = 0 := by omega
    have q6 := low32 (m := t) (by omega)
    have q7 : IntKind.u64.wrap (t : Int) = (t : Int) := IntWalk.u64_in _ (by omega)
    have q8 : IntKind.u64.wrap (-(m : Int)) = 18446744073709551616 - (m : Int) := by simp [IntKind.wrap, IntKind.bits, IntKind.signed]; omega
    have q9 : IntKind.u64.wrap ((18446744073709551616 - (m : Int)) * 57344) = 18446744073709551616 - (m : Int) * 57344 := by simp [IntKind.wrap, IntKind.bits, IntKind.signed]; omega
    have E1 := Lib.hid (show -(m : Int) * 57344 + 18446744073709551616 = 18446744073709551616 - (m : Int) * 57344 by omega)
    have q10 : ((18446744073709551616 - (m : Int) * 57344) == 0) = false := by simp; omega
    have c' : decide (-(m : Int) < 0) = true := by simpa using c
    have hm0 : 0 < m := by omega
    have x1 : bits BinOp.xor IntKind.u64 IntKind.u64.max 0 = 18446744073709551615 := by decide +kernel
    have x2 : wrap64 18446744073709551615 = -1 := by decide +kernel
    rw [if_pos c, if_pos c, E1.out]
    clear c h0 h1 ht E1
    go_enter Try.func133, Try.ntmps133
    go_wp2_with fail
    refine (pA.out _).mono ?_
    rintro e w' ⟨rfl, rfl⟩
    go_wp2_with fail
    refine (pB.out _).mono ?_
    rintro e w' ⟨rfl, rfl⟩
    go_wp2_with fail
    go_ret2
    exact ⟨rfl, rfl⟩
  · obtain ⟨m, rfl⟩ : ∃ m : Nat, v = (m : Int) := ⟨v.natAbs, by omega⟩
    rw [Int.natAbs_natCast] at pA
    have q1 : (m : Int) / 4294967296 = 0 := by omega
    have q2 := low32 (m := m) (by omega)
    have q3 : IntKind.u64.wrap ((m : Int) * 57344) = (m : Int) * 57344 := IntWalk.u64_in _ (by omega)
    obtain ⟨t, ht⟩ : ∃ t : Nat, (t : Int) = (m : Int) * 57344 / 4294967296 := ⟨m * 57344 / 4294967296, by omega⟩
    have t1 : t < 10 := by omega
    have q4 : (m : Int) * 57344 / 4294967296 = (t : Int) := ht.symm
    have q5 : (t : Int) / 4294967296 = 0 := by omega
    have q6 := low32 (m := t) (by omega)
    have q7 : IntKind.u64.wrap (t : Int) = (t : Int) := IntWalk.u64_in _ (by omega)
    have q8 : IntKind.u64.wrap (m : Int) = (m : Int) := IntWalk.u64_in _ (by omega)
    have c' : decide ((m : Int) < 0) = false := by simpa using c
    rw [if_neg c, if_neg c]
    clear c h0 h1 ht
    go_enter Try.func133, Try.ntmps133
    go_wp2_with fail
    refine (pA.out _).mono ?_
    rintro e w' ⟨rfl, rfl⟩
    go_wp2_with fail
    refine (pB.out _).mono ?_
    rintro e w' ⟨rfl, rfl⟩
    go_wp2_with fail
    go_ret2
    exact ⟨rfl, rfl⟩
theorem or_top {t : Nat} (h : t < 281474976710656) : bits .or .i64 (-281474976710656) (t : Int) = (t : Int) - 281474976710656 := by
  have h1 : (BitVec.ofInt 64 (t : Int)).toNat = t := by rw [BitVec.ofInt_natCast, BitVec.toNat_ofNat]; exact Nat.mod_eq_of_lt (by omega)
  have h2 : (BitVec.ofInt 64 (-281474976710656)).toNat = 65535 * 281474976710656 := by decide +kernel
  show IntKind.i64.wrap ((BitVec.ofInt 64 (-281474976710656) ||| BitVec.ofInt 64 (t : Int)).toNat : Int) = _
  rw [BitVec.toNat_or, h1, h2]
  have e : 65535 * 281474976710656 ||| t = 65535 * 281474976710656 + t := by
    have := Nat.two_pow_add_eq_or_of_lt (i := 48) (b := t) (by omega) 65535
    rw [show 65535 * 281474976710656 = 2 ^ 48 * 65535 by decide]
    exact this.symm
  rw [e]
  simp [IntKind.wrap, IntKind.bits, IntKind.signed]
  omega
theorem or_zero {t : Nat} (h : t < 281474976710656) : bits .or .i64 0 (t : Int) = (t : Int) := by
  have h1 : (BitVec.ofInt 64 (t : Int)).toNat = t := by rw [BitVec.ofInt_natCast, BitVec.toNat_ofNat]; exact Nat.mod_eq_of_lt (by omega)
  have h2 : (BitVec.ofInt 64 0).toNat = 0 := by decide +kernel
  show IntKind.i64.wrap ((BitVec.ofInt 64 0 ||| BitVec.ofInt 64 (t : Int)).toNat : Int) = _
  rw [BitVec.toNat_or, h1, h2, Nat.zero_or]
  exact IntWalk.i64_in _ (by omega)
set_option maxHeartbeats 2000000 in
theorem fmul_any (w : World) (v : Int) (h0 : -196608 ≤ v) (h1 : v ≤ 196608) :
    Calls Try.prog 104 #[.int .i64 v, .int .i64 57344] w fun e w' => e = .returned (.int .i64 (mulV v)) ∧ w = w' := by
  have pA := Lib.hid (fun w => wide_any w v h0 h1)
  by_cases c : v < 0
  · rw [if_pos c, if_pos c] at pA
    obtain ⟨t, ht⟩ : ∃ t : Nat, (t : Int) = (v * 57344 + 18446744073709551616) / 65536 := ⟨((v * 57344 + 18446744073709551616) / 65536).toNat, by omega⟩
    have t1 : t < 281474976710656 := by omega
    have E := Lib.hid (show mulV v = (t : Int) - 281474976710656 by unfold mulV; omega)
    obtain ⟨l, hl⟩ : ∃ l : Int, l = v * 57344 + 18446744073709551616 := ⟨_, rfl⟩
    rw [← hl] at pA ht
    have q1 : l / 65536 = (t : Int) := ht.symm
    have l0 : 0 ≤ l := by omega
    have q2 : IntKind.i64.wrap (t : Int) = (t : Int) := IntWalk.i64_in _ (by omega)
    have q3 := or_top t1
    have q4 : IntKind.i64.wrap (-281474976710656) = -281474976710656 := by decide +kernel
    clear ht hl
    go_enter Try.func104, Try.ntmps104
    go_wp2_with fail
    refine (pA.out _).mono ?_
    rintro e w' ⟨rfl, rfl⟩
    go_wp2_with fail
    go_ret
    exact ⟨ret_int E.out.symm, rfl⟩
  · rw [if_neg c, if_neg c] at pA
    obtain ⟨t, ht⟩ : ∃ t : Nat, (t : Int) = v * 57344 / 65536 := ⟨(v * 57344 / 65536).toNat, by omega⟩
    have t1 : t < 281474976710656 := by omega
    have E := Lib.hid (show mulV v = (t : Int) by unfold mulV; omega)
    obtain ⟨l, hl⟩ : ∃ l : Int, l = v * 57344 := ⟨_, rfl⟩
    rw [← hl] at pA ht
    have q1 : l / 65536 = (t : Int) := ht.symm
    have l0 : 0 ≤ l := by omega
    have q2 : IntKind.i64.wrap (t : Int) = (t : Int) := IntWalk.i64_in _ (by omega)
    have q3 := or_zero t1
    clear ht hl
    go_enter Try.func104, Try.ntmps104
    go_wp2_with fail
    refine (pA.out _).mono ?_
    rintro e w' ⟨rfl, rfl⟩
    go_wp2_with fail
    go_ret
    exact ⟨ret_int E.out.symm, rfl⟩
end Go.Proofs.Ytblnfkhaicjeaaa.Gm
