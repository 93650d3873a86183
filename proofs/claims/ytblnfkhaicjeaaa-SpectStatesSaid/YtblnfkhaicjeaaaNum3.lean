
/-
  The walks of package word: Add, Sub, Clamp, Floor; and of backstayref01.Floor.
-/
import Derived.Test.YtblnfkhaicjeaaaNum2
namespace Go.Proofs.Ytblnfkhaicjeaaa.Num
open Go.RowKit
set_option linter.all false

theorem hold_hi {z : Int} (h : 9223372036854775807 < z) : hold z = 9223372036854775807 := by unfold hold; rw [if_neg (by omega), if_pos h]
theorem hold_lo {z : Int} (h : z < -9223372036854775808) : hold z = -9223372036854775808 := by unfold hold; rw [if_pos h]
theorem hold_in {z : Int} (h : -9223372036854775808 ≤ z) (h' : z ≤ 9223372036854775807) : hold z = z := by unfold hold; rw [if_neg (by omega), if_neg (by omega)]
theorem hold_bd (z : Int) : -9223372036854775808 ≤ hold z ∧ hold z ≤ 9223372036854775807 := by unfold hold; split <;> (try split) <;> omega

set_option maxRecDepth 100000 in
set_option maxHeartbeats 1000000 in
theorem wadd_any (w : World) (a b : Int) (a1 : -9223372036854775808 ≤ a) (a2 : a ≤ 9223372036854775807) (b1 : -9223372036854775808 ≤ b) (b2 : b ≤ 9223372036854775807) :
    Calls Try.prog 105 #[.int .i64 a, .int .i64 b] w fun e w' => e = .returned (.int .i64 (hold (a + b))) ∧ w = w' := by
  by_cases c1 : 0 < b
  · by_cases c2 : 9223372036854775807 - b < a
    · have E := Lib.hid (hold_hi (z := a + b) (by omega))
      go_enter Try.func105, Try.ntmps105
      go_wp2
      go_ret
      exact ⟨ret_int E.out.symm, rfl⟩
    · have E := Lib.hid (hold_in (z := a + b) (by omega) (by omega))
      have c3 : decide (b < 0) = false := by simp; omega
      go_enter Try.func105, Try.ntmps105
      go_wp2
      go_ret
      exact ⟨ret_int E.out.symm, rfl⟩
  · have c1' : decide (0 < b) = false := by simpa using c1
    by_cases c2 : b < 0
    · by_cases c3 : a < -9223372036854775808 - b
      · have E := Lib.hid (hold_lo (z := a + b) (by omega))
        go_enter Try.func105, Try.ntmps105
        go_wp2
        go_ret
        exact ⟨ret_int E.out.symm, rfl⟩
      · have E := Lib.hid (hold_in (z := a + b) (by omega) (by omega))
        go_enter Try.func105, Try.ntmps105
        go_wp2
        go_ret
        exact ⟨ret_int E.out.symm, rfl⟩
    · have E := Lib.hid (hold_in (z := a + b) (by omega) (by omega))
      have c3 : decide (b < 0) = false := by simpa using c2
      go_enter Try.func105, Try.ntmps105
      go_wp2
      go_ret
      exact ⟨ret_int E.out.symm, rfl⟩

set_option maxRecDepth 100000 in
set_option maxHeartbeats 1000000 in
theorem wsub_any (w : World) (a b : Int) (a1 : -9223372036854775808 ≤ a) (a2 : a ≤ 9223372036854775807) (b1 : -9223372036854775808 ≤ b) (b2 : b ≤ 9223372036854775807) :
    Calls Try.prog 106 #[.int .i64 a, .int .i64 b] w fun e w' => e = .returned (.int .i64 (hold (a - b))) ∧ w = w' := by
  by_cases c1 : b < 0
  · by_cases c2 : 9223372036854775807 + b < a
    · have E := Lib.hid (hold_hi (z := a - b) (by omega))
      go_enter Try.func106, Try.ntmps106
      go_wp2
      go_ret
      exact ⟨ret_int E.out.symm, rfl⟩
    · have E := Lib.hid (hold_in (z := a - b) (by omega) (by omega))
      have c3 : decide (0 < b) = false := by simp; omega
      go_enter Try.func106, Try.ntmps106
      go_wp2
      go_ret
      exact ⟨ret_int E.out.symm, rfl⟩
  · have c1' : decide (b < 0) = false := by simpa using c1
    by_cases c2 : 0 < b
    · by_cases c3 : a < -9223372036854775808 + b
      · have E := Lib.hid (hold_lo (z := a - b) (by omega))
        go_enter Try.func106, Try.ntmps106
        go_wp2
        go_ret
        exact ⟨ret_int E.out.symm, rfl⟩
      · have E := Lib.hid (hold_in (z := a - b) (by omega) (by omega))
        go_enter Try.func106, Try.ntmps106
        go_wp2
        go_ret
        exact ⟨ret_int E.out.symm, rfl⟩
    · have E := Lib.hid (hold_in (z := a - b) (by omega) (by omega))
      have c3 : decide (0 < b) = false := by simpa using c2
      go_enter Try.func106, Try.ntmps106
      go_wp2
      go_ret
      exact ⟨ret_int E.out.symm, rfl⟩

def clampV (n lo hi : Int) : Int := max lo (min n (max lo hi))
set_option maxHeartbeats 1000000 in
theorem clamp_any (w : World) (n lo hi : Int) :
    Calls Try.prog 78 #[.int .i64 n, .int .i64 lo, .int .i64 hi] w fun e w' => e = .returned (.int .i64 (clampV n lo hi)) ∧ w = w' := by
  obtain ⟨m1, h1⟩ : ∃ m, (if lo < hi then hi else lo) = m := ⟨_, rfl⟩
  obtain ⟨m2, h2⟩ : ∃ m, (if m1 < n then m1 else n) = m := ⟨_, rfl⟩
  obtain ⟨m3, h3⟩ : ∃ m, (if lo < m2 then m2 else lo) = m := ⟨_, rfl⟩
  have E : clampV n lo hi = m3 := by
    unfold clampV
    rw [← h3, ← h2, ← h1]
    (repeat' split) <;> omega
  have E := Lib.hid E
  go_enter Try.func78, Try.ntmps78
  go_wp2
  go_ret
  exact ⟨ret_int E.out.symm, rfl⟩

/-- A quotient, rounded down; 0 by 0. -/
def floorV (a b : Int) : Int := if b = 0 then 0 else a / b
theorem floor_pos {a b : Int} (ha : 0 ≤ a) (hb : 0 < b) : floorV a b = a / b := by unfold floorV; rw [if_neg (by omega)]
theorem floor_neg0 {a b : Int} (ha : a < 0) (hb : 0 < b) (h : a.tmod b = 0) : floorV a b = a.tdiv b := by
  unfold floorV
  rw [if_neg (by omega)]
  have h1 := Int.mul_tdiv_add_tmod a b
  rw [h, Int.add_zero] at h1
  conv => lhs; rw [← h1]
  exact Int.mul_ediv_cancel_left _ (by omega)
theorem floor_neg1 {a b : Int} (ha : a < 0) (hb : 0 < b) (h : a.tmod b ≠ 0) : floorV a b = a.tdiv b - 1 := by
  unfold floorV
  rw [if_neg (by omega)]
  have h1 := Int.mul_tdiv_add_tmod a b
  have h2 : -b < a.tmod b := by
    have := Int.lt_tmod_of_pos a hb
    exact this
  have h3 : a.tmod b < 0 := by
    have : a.tmod b ≤ 0 := by
      have e : a.tmod b = -((-a).tmod b) := by rw [Int.neg_tmod, Int.neg_neg]
      have : 0 ≤ (-a).tmod b := Int.tmod_nonneg _ (by omega)
      omega
    omega
  have e : a = (a.tmod b + b) + b * (a.tdiv b - 1) := by rw [Int.mul_sub, Int.mul_one]; omega
  conv => lhs; rw [e]
  rw [Int.add_mul_ediv_left _ _ (by omega), Int.ediv_eq_zero_of_lt (by omega) (by omega)]
  omega
theorem tdiv_bd {a b : Int} (a1 : -9223372036854775808 ≤ a) (ha : a < 0) (hb : 0 < b) (h : a.tmod b ≠ 0) : -9223372036854775808 ≤ a.tdiv b - 1 ∧ a.tdiv b - 1 < 0 := by
  have h1 := floor_neg1 ha hb h
  unfold floorV at h1
  rw [if_neg (by omega)] at h1
  have h2 : a / b < 0 := Int.ediv_neg_of_neg_of_pos ha hb
  have h3 : a ≤ a / b := by
    have := Int.emod_def a b
    have := Int.emod_nonneg a (by omega : b ≠ 0)
    have : a / b * b ≤ a / b * 1 := Int.mul_le_mul_of_nonpos_left (by omega) (by omega)
    have h6 : b * (a / b) = a / b * b := Int.mul_comm _ _
    have h7 := Int.emod_lt_of_pos a hb
    by_cases hlt : a / b < a
    · exfalso
      have h8 : a / b * b ≤ (a - 1) * b := Int.mul_le_mul_of_nonneg_right (by omega) (by omega)
      have h9 : (a - 1) * b ≤ (a - 1) * 1 := Int.mul_le_mul_of_nonpos_left (by omega) (by omega)
      have h10 : a / b * b = a - a % b := by omega
      have h11 : (a - 1) * b = a * b - b := by rw [Int.sub_mul, Int.one_mul]
      have h12 : a * b ≤ a * 1 := Int.mul_le_mul_of_nonpos_left (by omega) (by omega)
      omega
    · omega
  omega


end Go.Proofs.Ytblnfkhaicjeaaa.Num
