/-
  Digits to the base 65536: addition, subtraction, comparison, product. Plain numbers, no program in sight.
-/
import Derived.WalkKit
namespace Go.Proofs.Ytblnfkhaicjeaaa
set_option linter.all false

/-- The i-th digit. -/
def dig (n i : Nat) : Nat := n / 65536 ^ i % 65536
theorem dig_lt (n i : Nat) : dig n i < 65536 := Nat.mod_lt _ (by decide)
theorem pow_pos' (i : Nat) : 0 < 65536 ^ i := Nat.pow_pos (by decide)
theorem mod_succ (n i : Nat) : n % 65536 ^ (i + 1) = n % 65536 ^ i + 65536 ^ i * dig n i := by
  unfold dig; rw [Nat.pow_succ, Nat.mod_mul]
theorem div_succ (n i : Nat) : n / 65536 ^ i = dig n i + 65536 * (n / 65536 ^ (i + 1)) := by
  unfold dig
  rw [Nat.pow_succ, ← Nat.div_div_eq_div_mul]
  omega
theorem dig_big {n i : Nat} (h : n < 65536 ^ i) : dig n i = 0 := by unfold dig; rw [Nat.div_eq_of_lt h]
theorem dig_big' {n i j : Nat} (h : n < 65536 ^ i) (hj : i ≤ j) : dig n j = 0 := dig_big (Nat.lt_of_lt_of_le h (Nat.pow_le_pow_right (by decide) hj))

/-! addition -/
def car (m n i : Nat) : Nat := (m % 65536 ^ i + n % 65536 ^ i) / 65536 ^ i
theorem car_zero (m n : Nat) : car m n 0 = 0 := by simp [car, Nat.mod_one]
theorem car_le (m n i : Nat) : car m n i ≤ 1 := by
  unfold car
  have hp := pow_pos' i
  have a := Nat.mod_lt m hp
  have b := Nat.mod_lt n hp
  have : (m % 65536 ^ i + n % 65536 ^ i) / 65536 ^ i < 2 := (Nat.div_lt_iff_lt_mul hp).2 (by omega)
  omega
theorem div_add_car (m n i : Nat) : (m + n) / 65536 ^ i = m / 65536 ^ i + n / 65536 ^ i + car m n i := by
  unfold car
  have hp := pow_pos' i
  conv => lhs; rw [← Nat.div_add_mod m (65536 ^ i), ← Nat.div_add_mod n (65536 ^ i)]
  rw [show 65536 ^ i * (m / 65536 ^ i) + m % 65536 ^ i + (65536 ^ i * (n / 65536 ^ i) + n % 65536 ^ i) = (m % 65536 ^ i + n % 65536 ^ i) + 65536 ^ i * (m / 65536 ^ i + n / 65536 ^ i) by rw [Nat.mul_add]; omega]
  rw [Nat.add_mul_div_left _ _ hp]
  omega
theorem add_dig (m n i : Nat) : (dig m i + dig n i + car m n i) % 65536 = dig (m + n) i := by
  have h := div_add_car m n i
  unfold dig
  rw [h]
  omega
theorem add_car (m n i : Nat) : (dig m i + dig n i + car m n i) / 65536 = car m n (i + 1) := by
  have h := div_add_car m n i
  have h1 := div_add_car m n (i + 1)
  have a := div_succ m i
  have b := div_succ n i
  have c := div_succ (m + n) i
  have d := add_dig m n i
  omega

/-! subtraction -/
def bor (m n i : Nat) : Nat := if m % 65536 ^ i < n % 65536 ^ i then 1 else 0
theorem bor_zero (m n : Nat) : bor m n 0 = 0 := by simp [bor, Nat.mod_one]
theorem bor_le (m n i : Nat) : bor m n i ≤ 1 := by unfold bor; split <;> omega
theorem div_sub_bor (m n i : Nat) (h : n ≤ m) : (m - n) / 65536 ^ i + n / 65536 ^ i + bor m n i = m / 65536 ^ i := by
  have hp := pow_pos' i
  have hm := Nat.div_add_mod m (65536 ^ i)
  have hn := Nat.div_add_mod n (65536 ^ i)
  have lm := Nat.mod_lt m hp
  have ln := Nat.mod_lt n hp
  generalize hB : 65536 ^ i = B at *
  have hq : n / B ≤ m / B := Nat.div_le_div_right h
  unfold bor
  rw [hB]
  split
  · rename_i hlt
    have hq2 : n / B + 1 ≤ m / B := by
      rcases Nat.lt_or_ge (n / B) (m / B) with h1 | h1
      · omega
      · have : m / B = n / B := by omega
        rw [this] at hm; omega
    obtain ⟨k, hk⟩ : ∃ k, m / B = n / B + 1 + k := ⟨m / B - (n / B + 1), by omega⟩
    have e : m - n = (B + m % B - n % B) + B * k := by
      rw [hk, Nat.mul_add, Nat.mul_add, Nat.mul_one] at hm; omega
    rw [e, Nat.add_mul_div_left _ _ hp, Nat.div_eq_of_lt (by omega), hk]; omega
  · rename_i hge
    obtain ⟨k, hk⟩ : ∃ k, m / B = n / B + k := ⟨m / B - n / B, by omega⟩
    have e : m - n = (m % B - n % B) + B * k := by
      rw [hk, Nat.mul_add] at hm; omega
    rw [e, Nat.add_mul_div_left _ _ hp, Nat.div_eq_of_lt (by omega), hk]; omega
theorem sub_dig (m n i : Nat) (h : n ≤ m) : (dig m i + 65536 - dig n i - bor m n i) % 65536 = dig (m - n) i := by
  have h1 := div_sub_bor m n i h
  have hb := bor_le m n i
  unfold dig
  omega
theorem sub_bor (m n i : Nat) (h : n ≤ m) : 1 - (dig m i + 65536 - dig n i - bor m n i) / 65536 = bor m n (i + 1) := by
  have h0 := div_sub_bor m n i h
  have h1 := div_sub_bor m n (i + 1) h
  have a := div_succ m i
  have b := div_succ n i
  have c := div_succ (m - n) i
  have hb := bor_le m n i
  have hb2 := bor_le m n (i + 1)
  have x := dig_lt m i
  have y := dig_lt n i
  have z := dig_lt (m - n) i
  omega

/-! comparison -/
theorem lt_of_dig {m n i : Nat} (h : m / 65536 ^ (i + 1) = n / 65536 ^ (i + 1)) (hd : dig m i < dig n i) : m < n := by
  have a := div_succ m i
  have b := div_succ n i
  have : m / 65536 ^ i < n / 65536 ^ i := by omega
  exact Nat.lt_of_not_le fun hle => absurd (Nat.div_le_div_right (c := 65536 ^ i) hle) (by omega)
theorem eq_of_dig {m n i : Nat} (h : m / 65536 ^ (i + 1) = n / 65536 ^ (i + 1)) (hd : dig m i = dig n i) : m / 65536 ^ i = n / 65536 ^ i := by
  have a := div_succ m i
  have b := div_succ n i
  omega

/-! product by a digit -/
theorem dig_mul_pow (x i j : Nat) : dig (65536 ^ i * x) (i + j) = dig x j := by
  unfold dig
  rw [Nat.pow_add, ← Nat.div_div_eq_div_mul, Nat.mul_div_cancel_left _ (pow_pos' i)]
theorem dig_mul_pow_lo (x i j : Nat) (h : j < i) : dig (65536 ^ i * x) j = 0 := by
  unfold dig
  obtain ⟨k, rfl⟩ : ∃ k, i = j + (k + 1) := ⟨i - j - 1, by omega⟩
  rw [Nat.pow_add, Nat.mul_assoc, Nat.mul_div_cancel_left _ (pow_pos' j), Nat.pow_succ, Nat.mul_assoc, Nat.mul_comm (65536 ^ k), Nat.mul_assoc]
  exact Nat.mul_mod_right _ _
/-- What is carried behind k digits. -/
def mcar (x b k : Nat) : Nat := x * (b % 65536 ^ k) / 65536 ^ k
theorem mcar_zero (x b : Nat) : mcar x b 0 = 0 := by simp [mcar, Nat.mod_one]
theorem mcar_le (x b k : Nat) (hx : x < 65536) : mcar x b k < 65536 := by
  unfold mcar
  have hp := pow_pos' k
  rw [Nat.div_lt_iff_lt_mul hp]
  have h := Nat.mod_lt b hp
  rcases Nat.eq_zero_or_pos (b % 65536 ^ k) with h0 | h0
  · rw [h0]; omega
  · calc x * (b % 65536 ^ k) ≤ x * 65536 ^ k := Nat.mul_le_mul_left _ (by omega)
      _ < 65536 * 65536 ^ k := Nat.mul_lt_mul_of_pos_right hx hp
theorem div_mul_mcar (x b k : Nat) : x * b / 65536 ^ k = x * (b / 65536 ^ k) + mcar x b k := by
  unfold mcar
  have hp := pow_pos' k
  conv => lhs; rw [← Nat.div_add_mod b (65536 ^ k)]
  rw [Nat.mul_add, Nat.add_comm, show x * (65536 ^ k * (b / 65536 ^ k)) = 65536 ^ k * (x * (b / 65536 ^ k)) by rw [Nat.mul_left_comm], Nat.add_mul_div_left _ _ hp]
  omega
theorem mul_dig (x b k : Nat) : (x * dig b k + mcar x b k) % 65536 = dig (x * b) k := by
  have h := div_mul_mcar x b k
  have hb := div_succ b k
  unfold dig at *
  rw [h]
  conv => rhs; rw [hb]
  rw [Nat.mul_add, show x * (65536 * (b / 65536 ^ (k + 1))) = 65536 * (x * (b / 65536 ^ (k + 1))) by rw [Nat.mul_left_comm]]
  omega
theorem mul_car (x b k : Nat) : (x * dig b k + mcar x b k) / 65536 = mcar x b (k + 1) := by
  have h := div_mul_mcar x b k
  have h1 := div_mul_mcar x b (k + 1)
  have hb := div_succ b k
  have d := mul_dig x b k
  have c := div_succ (x * b) k
  rw [hb, Nat.mul_add, show x * (65536 * (b / 65536 ^ (k + 1))) = 65536 * (x * (b / 65536 ^ (k + 1))) by rw [Nat.mul_left_comm]] at h
  omega
theorem mcar_end (x b k : Nat) (h : b < 65536 ^ k) : mcar x b k = dig (x * b) k ∨ ¬ x < 65536 := by
  by_cases hx : x < 65536
  · left
    have h1 := div_mul_mcar x b k
    rw [Nat.div_eq_of_lt h, Nat.mul_zero, Nat.zero_add] at h1
    have := mcar_le x b k hx
    unfold dig
    rw [h1]; omega
  · exact .inr hx

end Go.Proofs.Ytblnfkhaicjeaaa
