/-
  Texts joined: Num2, Num3, Gm, Gst. No condition.
-/
import Derived.Test.YtlhoffhagfhbcaaBDiff2
import Derived.Deep.MidRow
namespace Go.Proofs.Ytlhoffhagfhbcaa.Num
open Go.RowKit
set_option linter.all false

theorem box1 (w : World) (s : Bool) (f : Nat → Nat) : ∃ W1, W1 = (w.alloc (.cells (wcs s f) 195)).alloc (.cells wz 195) ∧ WB W1 w.heap.size s f ∧ WB W1 (w.heap.size + 1) false (fun _ => 0) ∧ Below w.heap.size w W1 := by
  refine ⟨_, rfl, (WB.new _ _ _).alloc _, ?_, ((Below.refl _ w).alloc (Nat.le_refl _) _).alloc (by simp) _⟩
  have := WB.zero (w.alloc (.cells (wcs s f) 195))
  simpa using this

set_option maxRecDepth 100000 in
set_option maxHeartbeats 2000000 in
theorem turn_any (w : World) (s : Bool) (m : Nat) :
    Calls Try.prog 144 #[wv s m] w fun e w' => e = .returned (wv (!s) m) ∧ Below w.heap.size w w' := by
  obtain ⟨W1, hW1, ha, hc, hB⟩ := box1 w s (dig m)
  unfold wv wcs
  unfold wcs wz at hW1
  obtain ⟨k0, k1, k2, k3, k4, k5, k6, k7, k8, k9⟩ := ha.cells
  have f0 := ha.fr 0
  obtain ⟨g0, g1, g2, g3, g4, g5, g6, g7, g8, g9⟩ := hc.frs
  obtain ⟨h0, h1, h2, h3, h4, h5, h6, h7, h8, h9⟩ := hc.cells
  go_enter Try.func144, Try.ntmps144
  go_upto_region 1 with fail
  rw [← hW1]
  clear hW1
  go_wp2_with fail
  refine bodyPost_ret (v := .agg #[.bool !s, .int .u64 (dig (m) 0), .int .u64 (dig (m) 1), .int .u64 (dig (m) 2), .int .u64 (dig (m) 3), .int .u64 (dig (m) 4), .int .u64 (dig (m) 5), .int .u64 (dig (m) 6), .int .u64 (dig (m) 7), .int .u64 (dig (m) 8)]) (by simp [results, Try.results144, go_sem, h0, h1, h2, h3, h4, h5, h6, h7, h8, h9]) rfl ⟨rfl, ?_⟩
  repeat (refine Below.setCell ?_ (by simp) _)
  exact hB

/-- A wide number as a whole one. -/
def sv (s : Bool) (m : Nat) : Int := if s then -(m : Int) else (m : Int)
/-- What Plus makes of signs and amounts. -/
def plusS (sa sb : Bool) (m n : Nat) : Bool := if sa = sb then sa else if m < n then sb else sa
def plusM (sa sb : Bool) (m n : Nat) : Nat := if sa = sb then m + n else if m < n then n - m else m - n

theorem setb (w : World) (b : Nat) (s s' : Bool) (f : Nat → Nat) (h : WB w b s f) : WB (w.setCell ⟨b, 0, none⟩ (.bool s')) b s' f := Blk.set_ h 0 (.bool s')

set_option maxRecDepth 100000 in
set_option maxHeartbeats 4000000 in
theorem Plus_any (w : World) (sa sb : Bool) (m n : Nat) (hm : m < 65536 ^ 9) (hn : n < 65536 ^ 9) :
    Calls Try.prog 143 #[wv sa m, wv sb n] w fun e w' => e = .returned (wv (plusS sa sb m n) (plusM sa sb m n)) ∧ Below w.heap.size w w' := by
  obtain ⟨W1, hW1, ha, hb, hc, hB1, hz1⟩ := boxes2 w sa sb (dig m) (dig n)
  have pP := plus_any W1 sa sb m n
  have pL := less_any W1 sa sb m n hm hn
  unfold wv wcs
  unfold wcs wz at hW1
  unfold wv wcs at pP pL
  have pP := Lib.hid pP
  obtain ⟨k0, k1, k2, k3, k4, k5, k6, k7, k8, k9⟩ := ha.cells
  obtain ⟨j0, j1, j2, j3, j4, j5, j6, j7, j8, j9⟩ := hb.cells
  have hz1l : w.heap.size + 3 ≤ W1.heap.size := by omega
  clear hz1
  by_cases hs : sa = sb
  · subst hs
    have e1 : plusS sa sa m n = sa := by simp [plusS]
    have e2 : plusM sa sa m n = m + n := by simp [plusM]
    rw [e1, e2]
    clear e1 e2 pL
    go_enter Try.func143, Try.ntmps143
    go_upto_region 1 with fail
    rw [← hW1]
    clear hW1
    go_wp2_with fail
    refine pP.out.mono ?_
    rintro e W2 ⟨rfl, hB2⟩
    have hc2 := hc.below hB2 (by omega)
    have hX2 := ha.below hB2 (by omega)
    have hz2 := hB2.size
    have hc3 := WB.alloc hc2 (.cells (wcs sa (dig (m + n))) 195)
    have hX3 := WB.alloc hX2 (.cells (wcs sa (dig (m + n))) 195)
    unfold wcs at hc3 hX3
    have q0 := hX3.cells.1
    obtain ⟨g0, g1, g2, g3, g4, g5, g6, g7, g8, g9⟩ := hc3.frs
    obtain ⟨h0, h1, h2, h3, h4, h5, h6, h7, h8, h9⟩ := hc3.cells
    have ne1 : ¬ w.heap.size + 1 + 1 = W2.heap.size := by omega
    have ne2 : ¬ w.heap.size = W2.heap.size := by omega
    have ne3 : ¬ w.heap.size + 1 = W2.heap.size := by omega
    have ne4 : ¬ W2.heap.size = w.heap.size + 1 + 1 := by omega
    go_wp2_with fail
    refine bodyPost_ret (v := .agg #[.bool sa, .int .u64 (dig (m + n) 0), .int .u64 (dig (m + n) 1), .int .u64 (dig (m + n) 2), .int .u64 (dig (m + n) 3), .int .u64 (dig (m + n) 4), .int .u64 (dig (m + n) 5), .int .u64 (dig (m + n) 6), .int .u64 (dig (m + n) 7), .int .u64 (dig (m + n) 8)]) (by simp [results, Try.results143, go_sem, h0, h1, h2, h3, h4, h5, h6, h7, h8, h9]) rfl ⟨rfl, ?_⟩
    repeat (refine Below.setCell ?_ (by simp; omega) _)
    first
      | exact (hB1.trans (hB2.mono (by omega))).alloc (by omega) _
      | exact ((hB1.trans (hB2.mono (by omega))).alloc (by omega) _).setCell (by simp; omega) _
  · have hs2 : (sa == sb) = false := by simpa using hs
    by_cases hlt : m < n
    · have e1 : plusS sa sb m n = sb := by simp [plusS, hs, hlt]
      have e2 : plusM sa sb m n = n - m := by simp [plusM, hs, hlt]
      rw [e1, e2]
      rw [decide_eq_true hlt] at pL
      have pM := fun W => minus_any W sb sa n m (by omega)
      unfold wv wcs at pM
      have pM := Lib.hid pM
      have pL := Lib.hid pL
      clear e1 e2 hs
      go_enter Try.func143, Try.ntmps143
      go_upto_region 1 with fail
      rw [← hW1]
      clear hW1
      go_wp2_with fail
      refine pL.out.mono ?_
      rintro e W1' ⟨rfl, hB1'⟩
      have ha := ha.below hB1' (by omega)
      have hb := hb.below hB1' (by omega)
      have hc := hc.below hB1' (by omega)
      have hB1 := hB1.trans (hB1'.mono (by omega))
      have hz1l : w.heap.size + 3 ≤ W1'.heap.size := by have := hB1'.size; omega
      clear k0 k1 k2 k3 k4 k5 k6 k7 k8 k9 j0 j1 j2 j3 j4 j5 j6 j7 j8 j9
      obtain ⟨k0, k1, k2, k3, k4, k5, k6, k7, k8, k9⟩ := ha.cells
      obtain ⟨j0, j1, j2, j3, j4, j5, j6, j7, j8, j9⟩ := hb.cells
      go_wp2_with fail
      refine (pM.out _).mono ?_
      rintro e W2 ⟨rfl, hB2⟩
      have hc2 := hc.below hB2 (by omega)
      have hX2 := hb.below hB2 (by omega)
      have hz2 := hB2.size
      have hc3 := WB.alloc hc2 (.cells (wcs sb (dig (n - m))) 195)
      have hX3 := WB.alloc hX2 (.cells (wcs sb (dig (n - m))) 195)
      unfold wcs at hc3 hX3
      have q0 := hX3.cells.1
      obtain ⟨g0, g1, g2, g3, g4, g5, g6, g7, g8, g9⟩ := hc3.frs
      obtain ⟨h0, h1, h2, h3, h4, h5, h6, h7, h8, h9⟩ := hc3.cells
      have ne1 : ¬ w.heap.size + 1 + 1 = W2.heap.size := by omega
      have ne2 : ¬ w.heap.size = W2.heap.size := by omega
      have ne3 : ¬ w.heap.size + 1 = W2.heap.size := by omega
      have ne4 : ¬ W2.heap.size = w.heap.size + 1 + 1 := by omega
      go_wp2_with fail
      refine bodyPost_ret (v := .agg #[.bool sb, .int .u64 (dig (n - m) 0), .int .u64 (dig (n - m) 1), .int .u64 (dig (n - m) 2), .int .u64 (dig (n - m) 3), .int .u64 (dig (n - m) 4), .int .u64 (dig (n - m) 5), .int .u64 (dig (n - m) 6), .int .u64 (dig (n - m) 7), .int .u64 (dig (n - m) 8)]) (by simp [results, Try.results143, go_sem, h0, h1, h2, h3, h4, h5, h6, h7, h8, h9]) rfl ⟨rfl, ?_⟩
      repeat (refine Below.setCell ?_ (by simp; omega) _)
      first
        | exact (hB1.trans (hB2.mono (by omega))).alloc (by omega) _
        | exact ((hB1.trans (hB2.mono (by omega))).alloc (by omega) _).setCell (by simp; omega) _
    · have e1 : plusS sa sb m n = sa := by simp [plusS, hs, hlt]
      have e2 : plusM sa sb m n = m - n := by simp [plusM, hs, hlt]
      rw [e1, e2]
      rw [decide_eq_false hlt] at pL
      have pM := fun W => minus_any W sa sb m n (by omega)
      unfold wv wcs at pM
      have pM := Lib.hid pM
      have pL := Lib.hid pL
      clear e1 e2 hs
      go_enter Try.func143, Try.ntmps143
      go_upto_region 1 with fail
      rw [← hW1]
      clear hW1
      go_wp2_with fail
      refine pL.out.mono ?_
      rintro e W1' ⟨rfl, hB1'⟩
      have ha := ha.below hB1' (by omega)
      have hb := hb.below hB1' (by omega)
      have hc := hc.below hB1' (by omega)
      have hB1 := hB1.trans (hB1'.mono (by omega))
      have hz1l : w.heap.size + 3 ≤ W1'.heap.size := by have := hB1'.size; omega
      clear k0 k1 k2 k3 k4 k5 k6 k7 k8 k9 j0 j1 j2 j3 j4 j5 j6 j7 j8 j9
      obtain ⟨k0, k1, k2, k3, k4, k5, k6, k7, k8, k9⟩ := ha.cells
      obtain ⟨j0, j1, j2, j3, j4, j5, j6, j7, j8, j9⟩ := hb.cells
      go_wp2_with fail
      refine (pM.out _).mono ?_
      rintro e W2 ⟨rfl, hB2⟩
      have hc2 := hc.below hB2 (by omega)
      have hX2 := ha.below hB2 (by omega)
      have hz2 := hB2.size
      have hc3 := WB.alloc hc2 (.cells (wcs sa (dig (m - n))) 195)
      have hX3 := WB.alloc hX2 (.cells (wcs sa (dig (m - n))) 195)
      unfold wcs at hc3 hX3
      have q0 := hX3.cells.1
      obtain ⟨g0, g1, g2, g3, g4, g5, g6, g7, g8, g9⟩ := hc3.frs
      obtain ⟨h0, h1, h2, h3, h4, h5, h6, h7, h8, h9⟩ := hc3.cells
      have ne1 : ¬ w.heap.size + 1 + 1 = W2.heap.size := by omega
      have ne2 : ¬ w.heap.size = W2.heap.size := by omega
      have ne3 : ¬ w.heap.size + 1 = W2.heap.size := by omega
      have ne4 : ¬ W2.heap.size = w.heap.size + 1 + 1 := by omega
      go_wp2_with fail
      refine bodyPost_ret (v := .agg #[.bool sa, .int .u64 (dig (m - n) 0), .int .u64 (dig (m - n) 1), .int .u64 (dig (m - n) 2), .int .u64 (dig (m - n) 3), .int .u64 (dig (m - n) 4), .int .u64 (dig (m - n) 5), .int .u64 (dig (m - n) 6), .int .u64 (dig (m - n) 7), .int .u64 (dig (m - n) 8)]) (by simp [results, Try.results143, go_sem, h0, h1, h2, h3, h4, h5, h6, h7, h8, h9]) rfl ⟨rfl, ?_⟩
      repeat (refine Below.setCell ?_ (by simp; omega) _)
      first
        | exact (hB1.trans (hB2.mono (by omega))).alloc (by omega) _
        | exact ((hB1.trans (hB2.mono (by omega))).alloc (by omega) _).setCell (by simp; omega) _

/-- Held at the limits. -/
def hold (z : Int) : Int := if z < -9223372036854775808 then -9223372036854775808 else if 9223372036854775807 < z then 9223372036854775807 else z
def heldV (s : Bool) (m : Nat) : Int := if s then (if 9223372036854775808 ≤ m then -9223372036854775808 else -(m : Int)) else (if 9223372036854775807 < m then 9223372036854775807 else (m : Int))
theorem heldV_eq (s : Bool) (m : Nat) : heldV s m = hold (sv s m) := by
  unfold heldV hold sv
  cases s
  · simp only [Bool.false_eq_true, if_false]
    split <;> split <;> (try split) <;> omega
  · simp only [if_true]
    split <;> split <;> (try split) <;> omega

theorem lo_dig {m j : Nat} (h : j < 4) : dig (m % 65536 ^ 4) j = dig m j := by
  unfold dig
  match j, h with
  | 0, _ => simp <;> omega
  | 1, _ => simp <;> omega
  | 2, _ => simp <;> omega
  | 3, _ => simp <;> omega

set_option maxRecDepth 100000 in
set_option maxHeartbeats 4000000 in
theorem held_any (w : World) (s : Bool) (m : Nat) (hm : m < 65536 ^ 5) :
    Calls Try.prog 142 #[wv s m] w fun e w' => e = .returned (.int .i64 (heldV s m)) ∧ Below w.heap.size w w' := by
  obtain ⟨W1, hW1, ha, hB⟩ : ∃ W1, W1 = w.alloc (.cells (wcs s (dig m)) 195) ∧ WB W1 w.heap.size s (dig m) ∧ Below w.heap.size w W1 := ⟨_, rfl, WB.new _ _ _, (Below.refl _ w).alloc (Nat.le_refl _) _⟩
  obtain ⟨k0, k1, k2, k3, k4, k5, k6, k7, k8, k9⟩ := ha.cells
  rw [dig_big' (i := 5) hm (by omega)] at k6 k7 k8 k9
  unfold wv wcs
  unfold wcs at hW1
  have hr : m % 65536 ^ 4 < 65536 ^ 4 := Nat.mod_lt _ (by decide)
  obtain ⟨r, hrr⟩ : ∃ r, r = m % 65536 ^ 4 := ⟨_, rfl⟩
  have hdig : ∀ j, j < 4 → dig r j = dig m j := fun j hj => by rw [hrr]; exact lo_dig hj
  have hr' : r < 18446744073709551616 := by rw [hrr]; exact hr
  have HR := Lib.hid hrr
  clear hr hrr
  by_cases hbig : dig m 4 = 0
  · rw [hbig] at k5
    have hrm : r = m := by
      have h1 := div_succ m 4
      rw [hbig, Nat.div_eq_of_lt hm] at h1
      have h2 := Nat.div_add_mod m (65536 ^ 4)
      rw [HR.out]
      omega
    have HRM := Lib.hid hrm
    clear hbig hrm
    go_enter Try.func142, Try.ntmps142
    go_upto_region 1 with fail
    rw [← hW1]
    clear hW1
    go_wp2_with fail
    go_loopw [3, 5] (fun u iv wr => ∃ k : Nat, k ≤ 4 ∧ iv = .int .i64 ((k : Int) - 1) ∧ u = .int .u64 ((r / 65536 ^ k : Nat) : Int) ∧ wr = W1) (fun _ iv _ => (intOf iv + 1).toNat)
    case atStart => exact ⟨4, by omega, rfl, by rw [show r / 65536 ^ 4 = 0 from Nat.div_eq_of_lt hr']; rfl, rfl⟩
    case round =>
      obtain ⟨k, hk, rfl, rfl, rfl⟩ := hrel
      match k, hk with
      | 0, _ =>
        rw [show (((0 : Nat) : Int) - 1) = -1 from rfl, show r / 65536 ^ 0 = r by simp]
        rw [HRM.out]
        by_cases h63 : 9223372036854775807 < m
        · have e1 : heldV s m = if s then -9223372036854775808 else 9223372036854775807 := by unfold heldV; rw [if_pos h63, if_pos (show 9223372036854775808 ≤ m by omega)]
          have E1 := Lib.hid e1
          have h63' : (9223372036854775807 : Int) < (m : Int) := by omega
          have h64 : (9223372036854775808 : Int) ≤ (m : Int) := by omega
          clear e1 h63
          cases s
          · go_wp2_with fail
            go_ret
            exact ⟨ret_int (by rw [E1.out]; rfl), hB⟩
          · go_wp2_with fail
            go_ret
            exact ⟨ret_int (by rw [E1.out]; rfl), hB⟩
        · have e1 : heldV s m = if s then -(m : Int) else (m : Int) := by unfold heldV; rw [if_neg h63, if_neg (show ¬ 9223372036854775808 ≤ m by omega)]
          have E1 := Lib.hid e1
          have h63' : (m : Int) ≤ 9223372036854775807 := by omega
          have h64 : ¬ (9223372036854775808 : Int) ≤ (m : Int) := by omega
          have w1 : IntKind.i64.wrap (m : Int) = (m : Int) := IntWalk.i64_in _ (by omega)
          have w2 : IntKind.i64.wrap (-(m : Int)) = -(m : Int) := IntWalk.i64_in _ (by omega)
          clear e1 h63
          cases s
          · go_wp2_with fail
            go_ret
            exact ⟨ret_int (by rw [E1.out]; rfl), hB⟩
          · go_wp2_with fail
            go_ret
            exact ⟨ret_int (by rw [E1.out]; rfl), hB⟩
      | j + 1, hj4 =>
        have hj : j < 4 := by omega
        rw [show (((j + 1 : Nat) : Int) - 1) = (j : Int) by omega]
        have c1 := ha.at_ (i := j) (by omega)
        rw [← hdig j hj] at c1
        have l1 := dig_lt r j
        have hs1 := div_succ r j
        have hle : r / 65536 ^ j ≤ r := Nat.div_le_self _ _
        have i1 : (0 : Int) ≤ (j : Int) := by omega
        have i2 : (j : Int) < 9 := by omega
        have HS := Lib.hid hs1
        generalize dig r j = x at c1 l1 hs1 HS
        generalize r / 65536 ^ (j + 1) = t at hs1 HS ⊢
        have b1 : x + 65536 * t < 18446744073709551616 := by omega
        clear hs1 hle
        have q1 : IntKind.u64.wrap ((t : Int) * 65536) = (t : Int) * 65536 := IntWalk.u64_in _ (by omega)
        have q2 : IntKind.u64.wrap ((t : Int) * 65536 + (x : Int)) = (t : Int) * 65536 + (x : Int) := IntWalk.u64_in _ (by omega)
        go_wp2_with fail
        go_roundw
        case rel => exact ⟨j, by omega, by simp <;> rfl, by rw [HS.out]; simp [Int.mul_comm, Int.add_comm], trivial⟩
        case measure => simp [intOf] <;> omega
  · have hmm : 18446744073709551616 ≤ m := by
      rcases Nat.lt_or_ge m (65536 ^ 4) with h | h
      · exact absurd (dig_big h) hbig
      · exact h
    have e1 : heldV s m = if s then -9223372036854775808 else 9223372036854775807 := by unfold heldV; rw [if_pos (show 9223372036854775808 ≤ m by omega), if_pos (show 9223372036854775807 < m by omega)]
    have E1 := Lib.hid e1
    have hpos : (0 : Int) < (dig m 4 : Int) := by omega
    clear e1 hmm hbig hm
    go_enter Try.func142, Try.ntmps142
    go_upto_region 1 with fail
    rw [← hW1]
    clear hW1
    go_wp2_with fail
    go_loopw [3, 5] (fun u iv wr => ∃ k : Nat, k ≤ 4 ∧ iv = .int .i64 ((k : Int) - 1) ∧ u = .int .u64 ((r / 65536 ^ k : Nat) : Int) ∧ wr = W1) (fun _ iv _ => (intOf iv + 1).toNat)
    case atStart => exact ⟨4, by omega, rfl, by rw [show r / 65536 ^ 4 = 0 from Nat.div_eq_of_lt hr']; rfl, rfl⟩
    case round =>
      obtain ⟨k, hk, rfl, rfl, rfl⟩ := hrel
      match k, hk with
      | 0, _ =>
        rw [show (((0 : Nat) : Int) - 1) = -1 from rfl, show r / 65536 ^ 0 = r by simp]
        cases s
        · go_wp2_with fail
          go_ret
          exact ⟨ret_int (by rw [E1.out]; rfl), hB⟩
        · go_wp2_with fail
          go_ret
          exact ⟨ret_int (by rw [E1.out]; rfl), hB⟩
      | j + 1, hj4 =>
        have hj : j < 4 := by omega
        rw [show (((j + 1 : Nat) : Int) - 1) = (j : Int) by omega]
        have c1 := ha.at_ (i := j) (by omega)
        rw [← hdig j hj] at c1
        have l1 := dig_lt r j
        have hs1 := div_succ r j
        have hle : r / 65536 ^ j ≤ r := Nat.div_le_self _ _
        have i1 : (0 : Int) ≤ (j : Int) := by omega
        have i2 : (j : Int) < 9 := by omega
        have HS := Lib.hid hs1
        generalize dig r j = x at c1 l1 hs1 HS
        generalize r / 65536 ^ (j + 1) = t at hs1 HS ⊢
        have b1 : x + 65536 * t < 18446744073709551616 := by omega
        clear hs1 hle
        have q1 : IntKind.u64.wrap ((t : Int) * 65536) = (t : Int) * 65536 := IntWalk.u64_in _ (by omega)
        have q2 : IntKind.u64.wrap ((t : Int) * 65536 + (x : Int)) = (t : Int) * 65536 + (x : Int) := IntWalk.u64_in _ (by omega)
        go_wp2_with fail
        go_roundw
        case rel => exact ⟨j, by omega, by simp <;> rfl, by rw [HS.out]; simp [Int.mul_comm, Int.add_comm], trivial⟩
        case measure => simp [intOf] <;> omega

theorem abs_lt {n : Int} (h1 : -9223372036854775808 ≤ n) (h2 : n ≤ 9223372036854775807) : n.natAbs ≤ 9223372036854775808 := by omega
theorem sv_of (n : Int) : sv (decide (n < 0)) n.natAbs = n := by
  unfold sv
  by_cases h : n < 0
  · rw [decide_eq_true h, if_pos rfl]; omega
  · rw [decide_eq_false h, if_neg (by simp)]; omega
theorem sv_plus (sa sb : Bool) (m n : Nat) : sv (plusS sa sb m n) (plusM sa sb m n) = sv sa m + sv sb n := by
  unfold sv plusS plusM
  by_cases h : sa = sb
  · subst h
    rw [if_pos rfl, if_pos rfl]
    cases sa <;> simp <;> omega
  · rw [if_neg h, if_neg h]
    by_cases hlt : m < n
    · rw [if_pos hlt, if_pos hlt]
      cases sa <;> cases sb <;> simp_all <;> omega
    · rw [if_neg hlt, if_neg hlt]
      cases sa <;> cases sb <;> simp_all <;> omega
theorem sv_not (s : Bool) (m : Nat) : sv (!s) m = - sv s m := by cases s <;> simp [sv]
theorem plusM_lt {sa sb : Bool} {m n : Nat} (hm : m ≤ 9223372036854775808) (hn : n ≤ 9223372036854775808) : plusM sa sb m n < 65536 ^ 5 := by
  unfold plusM
  have : (65536 : Nat) ^ 5 = 1208925819614629174706176 := by decide
  rw [this]
  split
  · omega
  · split <;> omega

set_option maxRecDepth 100000 in
set_option maxHeartbeats 1000000 in
theorem add_any (w : World) (a b : Int) (a1 : -9223372036854775808 ≤ a) (a2 : a ≤ 9223372036854775807) (b1 : -9223372036854775808 ≤ b) (b2 : b ≤ 9223372036854775807) :
    Calls Try.prog 130 #[.int .i64 a, .int .i64 b] w fun e w' => e = .returned (.int .i64 (hold (a + b))) ∧ Below w.heap.size w w' := by
  have la := abs_lt a1 a2
  have lb := abs_lt b1 b2
  have h9 : (9223372036854775808 : Nat) < 65536 ^ 9 := by decide
  have p1 := Lib.hid (of_any w a a1 a2)
  have p2 := Lib.hid (fun W => of_any W b b1 b2)
  have p3 := Lib.hid (fun W => Plus_any W (decide (a < 0)) (decide (b < 0)) a.natAbs b.natAbs (by omega) (by omega))
  have p4 := Lib.hid (fun W => held_any W (plusS (decide (a < 0)) (decide (b < 0)) a.natAbs b.natAbs) (plusM (decide (a < 0)) (decide (b < 0)) a.natAbs b.natAbs) (plusM_lt la lb))
  have hfin := Lib.hid (show heldV (plusS (decide (a < 0)) (decide (b < 0)) a.natAbs b.natAbs) (plusM (decide (a < 0)) (decide (b < 0)) a.natAbs b.natAbs) = hold (a + b) by rw [heldV_eq, sv_plus, sv_of, sv_of])
  clear la lb h9
  go_enter Try.func130, Try.ntmps130
  go_wp2_with fail
  refine p1.out.mono ?_
  rintro e w1 ⟨rfl, hb1⟩
  go_wp2_with fail
  refine (p2.out _).mono ?_
  rintro e w2 ⟨rfl, hb2⟩
  go_wp2_with fail
  refine (p3.out _).mono ?_
  rintro e w3 ⟨rfl, hb3⟩
  go_wp2_with fail
  refine (p4.out _).mono ?_
  rintro e w4 ⟨rfl, hb4⟩
  go_wp2_with fail
  go_ret
  have z1 := hb1.size
  have z2 := hb2.size
  have z3 := hb3.size
  exact ⟨ret_int hfin.out, ((hb1.trans (hb2.mono z1)).trans (hb3.mono (by omega))).trans (hb4.mono (by omega))⟩

set_option maxRecDepth 100000 in
set_option maxHeartbeats 1000000 in
theorem sub_any (w : World) (a b : Int) (a1 : -9223372036854775808 ≤ a) (a2 : a ≤ 9223372036854775807) (b1 : -9223372036854775808 ≤ b) (b2 : b ≤ 9223372036854775807) :
    Calls Try.prog 131 #[.int .i64 a, .int .i64 b] w fun e w' => e = .returned (.int .i64 (hold (a - b))) ∧ Below w.heap.size w w' := by
  have la := abs_lt a1 a2
  have lb := abs_lt b1 b2
  have h9 : (9223372036854775808 : Nat) < 65536 ^ 9 := by decide
  have p1 := Lib.hid (of_any w a a1 a2)
  have p2 := Lib.hid (fun W => of_any W b b1 b2)
  have p5 := Lib.hid (fun W => turn_any W (decide (b < 0)) b.natAbs)
  have p3 := Lib.hid (fun W => Plus_any W (decide (a < 0)) (!decide (b < 0)) a.natAbs b.natAbs (by omega) (by omega))
  have p4 := Lib.hid (fun W => held_any W (plusS (decide (a < 0)) (!decide (b < 0)) a.natAbs b.natAbs) (plusM (decide (a < 0)) (!decide (b < 0)) a.natAbs b.natAbs) (plusM_lt la lb))
  have hfin := Lib.hid (show heldV (plusS (decide (a < 0)) (!decide (b < 0)) a.natAbs b.natAbs) (plusM (decide (a < 0)) (!decide (b < 0)) a.natAbs b.natAbs) = hold (a - b) by rw [heldV_eq, sv_plus, sv_not, sv_of, sv_of, Int.sub_eq_add_neg])
  clear la lb h9
  generalize hsg : (!decide (b < 0)) = nb at p5 p3 p4 hfin
  clear hsg
  go_enter Try.func131, Try.ntmps131
  go_wp2_with fail
  refine p1.out.mono ?_
  rintro e w1 ⟨rfl, hb1⟩
  go_wp2_with fail
  refine (p2.out _).mono ?_
  rintro e w2 ⟨rfl, hb2⟩
  go_wp2_with fail
  refine (p5.out _).mono ?_
  rintro e w5 ⟨rfl, hb5⟩
  go_wp2_with fail
  refine (p3.out _).mono ?_
  rintro e w3 ⟨rfl, hb3⟩
  go_wp2_with fail
  refine (p4.out _).mono ?_
  rintro e w4 ⟨rfl, hb4⟩
  go_wp2_with fail
  go_ret
  have z1 := hb1.size
  have z2 := hb2.size
  have z3 := hb3.size
  have z5 := hb5.size
  exact ⟨ret_int hfin.out, (((hb1.trans (hb2.mono z1)).trans (hb5.mono (by omega))).trans (hb3.mono (by omega))).trans (hb4.mono (by omega))⟩
end Go.Proofs.Ytlhoffhagfhbcaa.Num
namespace Go.Proofs.Ytlhoffhagfhbcaa.Num
open Go.RowKit
set_option linter.all false

theorem hold_hi {z : Int} (h : 9223372036854775807 < z) : hold z = 9223372036854775807 := by unfold hold; rw [if_neg (by omega), if_pos h]
theorem hold_lo {z : Int} (h : z < -9223372036854775808) : hold z = -9223372036854775808 := by unfold hold; rw [if_pos h]
theorem hold_in {z : Int} (h : -9223372036854775808 ≤ z) (h' : z ≤ 9223372036854775807) : hold z = z := by unfold hold; rw [if_neg (by omega), if_neg (by omega)]
theorem hold_bd (z : Int) : -9223372036854775808 ≤ hold z ∧ hold z ≤ 9223372036854775807 := by unfold hold; split <;> (try split) <;> omega

set_option maxRecDepth 100000 in
set_option maxHeartbeats 1000000 in
theorem wadd_any (w : World) (a b : Int) (a1 : -9223372036854775808 ≤ a) (a2 : a ≤ 9223372036854775807) (b1 : -9223372036854775808 ≤ b) (b2 : b ≤ 9223372036854775807) :
    Calls Try.prog 103 #[.int .i64 a, .int .i64 b] w fun e w' => e = .returned (.int .i64 (hold (a + b))) ∧ w = w' := by
  by_cases c1 : 0 < b
  · by_cases c2 : 9223372036854775807 - b < a
    · have E := Lib.hid (hold_hi (z := a + b) (by omega))
      go_enter Try.func103, Try.ntmps103
      go_wp2
      go_ret
      exact ⟨ret_int E.out.symm, rfl⟩
    · have E := Lib.hid (hold_in (z := a + b) (by omega) (by omega))
      have c3 : decide (b < 0) = false := by simp; omega
      go_enter Try.func103, Try.ntmps103
      go_wp2
      go_ret
      exact ⟨ret_int E.out.symm, rfl⟩
  · have c1' : decide (0 < b) = false := by simpa using c1
    by_cases c2 : b < 0
    · by_cases c3 : a < -9223372036854775808 - b
      · have E := Lib.hid (hold_lo (z := a + b) (by omega))
        go_enter Try.func103, Try.ntmps103
        go_wp2
        go_ret
        exact ⟨ret_int E.out.symm, rfl⟩
      · have E := Lib.hid (hold_in (z := a + b) (by omega) (by omega))
        go_enter Try.func103, Try.ntmps103
        go_wp2
        go_ret
        exact ⟨ret_int E.out.symm, rfl⟩
    · have E := Lib.hid (hold_in (z := a + b) (by omega) (by omega))
      have c3 : decide (b < 0) = false := by simpa using c2
      go_enter Try.func103, Try.ntmps103
      go_wp2
      go_ret
      exact ⟨ret_int E.out.symm, rfl⟩

set_option maxRecDepth 100000 in
set_option maxHeartbeats 1000000 in
theorem wsub_any (w : World) (a b : Int) (a1 : -9223372036854775808 ≤ a) (a2 : a ≤ 9223372036854775807) (b1 : -9223372036854775808 ≤ b) (b2 : b ≤ 9223372036854775807) :
    Calls Try.prog 104 #[.int .i64 a, .int .i64 b] w fun e w' => e = .returned (.int .i64 (hold (a - b))) ∧ w = w' := by
  by_cases c1 : b < 0
  · by_cases c2 : 9223372036854775807 + b < a
    · have E := Lib.hid (hold_hi (z := a - b) (by omega))
      go_enter Try.func104, Try.ntmps104
      go_wp2
      go_ret
      exact ⟨ret_int E.out.symm, rfl⟩
    · have E := Lib.hid (hold_in (z := a - b) (by omega) (by omega))
      have c3 : decide (0 < b) = false := by simp; omega
      go_enter Try.func104, Try.ntmps104
      go_wp2
      go_ret
      exact ⟨ret_int E.out.symm, rfl⟩
  · have c1' : decide (b < 0) = false := by simpa using c1
    by_cases c2 : 0 < b
    · by_cases c3 : a < -9223372036854775808 + b
      · have E := Lib.hid (hold_lo (z := a - b) (by omega))
        go_enter Try.func104, Try.ntmps104
        go_wp2
        go_ret
        exact ⟨ret_int E.out.symm, rfl⟩
      · have E := Lib.hid (hold_in (z := a - b) (by omega) (by omega))
        go_enter Try.func104, Try.ntmps104
        go_wp2
        go_ret
        exact ⟨ret_int E.out.symm, rfl⟩
    · have E := Lib.hid (hold_in (z := a - b) (by omega) (by omega))
      have c3 : decide (0 < b) = false := by simpa using c2
      go_enter Try.func104, Try.ntmps104
      go_wp2
      go_ret
      exact ⟨ret_int E.out.symm, rfl⟩

def clampV (n lo hi : Int) : Int := max lo (min n (max lo hi))
set_option maxHeartbeats 1000000 in
theorem clamp_any (w : World) (n lo hi : Int) :
    Calls Try.prog 99 #[.int .i64 n, .int .i64 lo, .int .i64 hi] w fun e w' => e = .returned (.int .i64 (clampV n lo hi)) ∧ w = w' := by
  obtain ⟨m1, h1⟩ : ∃ m, (if lo < hi then hi else lo) = m := ⟨_, rfl⟩
  obtain ⟨m2, h2⟩ : ∃ m, (if m1 < n then m1 else n) = m := ⟨_, rfl⟩
  obtain ⟨m3, h3⟩ : ∃ m, (if lo < m2 then m2 else lo) = m := ⟨_, rfl⟩
  have E : clampV n lo hi = m3 := by
    unfold clampV
    rw [← h3, ← h2, ← h1]
    (repeat' split) <;> omega
  have E := Lib.hid E
  go_enter Try.func99, Try.ntmps99
  go_wp2
  go_ret
  exact ⟨ret_int E.out.symm, rfl⟩

/-- A quotient, rounded down; 0 by 0. -/
def floorV (a b : Int) : Int := if b = 0 then 0 else a / b
theorem floor_pos {a b : Int} (ha : 0 ≤ a) (hb : 0 < b) : floorV a b = a / b := by unfold floorV; rw [if_neg (by omega)]
theorem floor_neg0 {a b : Int} (ha : a < 0) (hb : 0 < b) (h : a.tmod b = 0) : floorV a b = a.tdiv b := by
  unfold floorV
  rw [if_neg (by omega)]
  have h1 := Int.mul_tdiv_add_tmod a b
  rw [h, Int.add_zero] at h1
  conv => lhs; rw [← h1]
  exact Int.mul_ediv_cancel_left _ (by omega)
theorem floor_neg1 {a b : Int} (ha : a < 0) (hb : 0 < b) (h : a.tmod b ≠ 0) : floorV a b = a.tdiv b - 1 := by
  unfold floorV
  rw [if_neg (by omega)]
  have h1 := Int.mul_tdiv_add_tmod a b
  have h2 : -b < a.tmod b := by
    have := Int.lt_tmod_of_pos a hb
    exact this
  have h3 : a.tmod b < 0 := by
    have : a.tmod b ≤ 0 := by
      have e : a.tmod b = -((-a).tmod b) := by rw [Int.neg_tmod, Int.neg_neg]
      have : 0 ≤ (-a).tmod b := Int.tmod_nonneg _ (by omega)
      omega
    omega
  have e : a = (a.tmod b + b) + b * (a.tdiv b - 1) := by rw [Int.mul_sub, Int.mul_one]; omega
  conv => lhs; rw [e]
  rw [Int.add_mul_ediv_left _ _ (by omega), Int.ediv_eq_zero_of_lt (by omega) (by omega)]
  omega
theorem tdiv_bd {a b : Int} (a1 : -9223372036854775808 ≤ a) (ha : a < 0) (hb : 0 < b) (h : a.tmod b ≠ 0) : -9223372036854775808 ≤ a.tdiv b - 1 ∧ a.tdiv b - 1 < 0 := by
  have h1 := floor_neg1 ha hb h
  unfold floorV at h1
  rw [if_neg (by omega)] at h1
  have h2 : a / b < 0 := Int.ediv_neg_of_neg_of_pos ha hb
  have h3 : a ≤ a / b := by
    have := Int.emod_def a b
    have := Int.emod_nonneg a (by omega : b ≠ 0)
    have : a / b * b ≤ a / b * 1 := Int.mul_le_mul_of_nonpos_left (by omega) (by omega)
    have h6 : b * (a / b) = a / b * b := Int.mul_comm _ _
    have h7 := Int.emod_lt_of_pos a hb
    by_cases hlt : a / b < a
    · exfalso
      have h8 : a / b * b ≤ (a - 1) * b := Int.mul_le_mul_of_nonneg_right (by omega) (by omega)
      have h9 : (a - 1) * b ≤ (a - 1) * 1 := Int.mul_le_mul_of_nonpos_left (by omega) (by omega)
      have h10 : a / b * b = a - a % b := by omega
      have h11 : (a - 1) * b = a * b - b := by rw [Int.sub_mul, Int.one_mul]
      have h12 : a * b ≤ a * 1 := Int.mul_le_mul_of_nonpos_left (by omega) (by omega)
      omega
    · omega
  omega


end Go.Proofs.Ytlhoffhagfhbcaa.Num
namespace Go.Proofs.Ytlhoffhagfhbcaa.Gm
open Go.RowKit Go.Proofs.Ytlhoffhagfhbcaa.Num
set_option linter.all false

abbrev F := Nat → Int
structure Body where
  (x y vx vy life cool facing : Int)
structure Shot where
  (on x y vx owner frames : Int)
def bod (f : F) (o : Nat) : Body := ⟨f o, f (o + 1), f (o + 2), f (o + 3), f (o + 4), f (o + 5), f (o + 6)⟩
def sho (f : F) (o : Nat) : Shot := ⟨f o, f (o + 1), f (o + 2), f (o + 3), f (o + 4), f (o + 5)⟩
def put (f : F) (k : Nat) (v : Int) : F := fun j => if j = k then v else f j
def setB (f : F) (o : Nat) (b : Body) : F := put (put (put (put (put (put (put f o b.x) (o + 1) b.y) (o + 2) b.vx) (o + 3) b.vy) (o + 4) b.life) (o + 5) b.cool) (o + 6) b.facing
def setS (f : F) (o : Nat) (s : Shot) : F := put (put (put (put (put (put f o s.on) (o + 1) s.x) (o + 2) s.y) (o + 3) s.vx) (o + 4) s.owner) (o + 5) s.frames
theorem put_eq (f : F) (k : Nat) (v : Int) : put f k v k = v := by simp [put]
theorem put_ne (f : F) {k j : Nat} (v : Int) (h : j ≠ k) : put f k v j = f j := by simp [put, h]
theorem setB_bod (f : F) (o : Nat) (b : Body) : bod (setB f o b) o = b := by simp [bod, setB, put]
theorem setS_sho (f : F) (o : Nat) (b : Shot) : sho (setS f o b) o = b := by simp [sho, setS, put]
theorem setB_out (f : F) (o : Nat) (b : Body) {j : Nat} (h : j < o ∨ o + 7 ≤ j) : setB f o b j = f j := by
  unfold setB
  rw [put_ne _ _ (by omega), put_ne _ _ (by omega), put_ne _ _ (by omega), put_ne _ _ (by omega), put_ne _ _ (by omega), put_ne _ _ (by omega), put_ne _ _ (by omega)]
theorem setS_out (f : F) (o : Nat) (b : Shot) {j : Nat} (h : j < o ∨ o + 6 ≤ j) : setS f o b j = f j := by
  unfold setS
  rw [put_ne _ _ (by omega), put_ne _ _ (by omega), put_ne _ _ (by omega), put_ne _ _ (by omega), put_ne _ _ (by omega), put_ne _ _ (by omega)]
theorem bod_congr {f g : F} {o : Nat} (h : ∀ j, o ≤ j → j < o + 7 → f j = g j) : bod f o = bod g o := by
  unfold bod
  rw [h o (by omega) (by omega), h (o + 1) (by omega) (by omega), h (o + 2) (by omega) (by omega), h (o + 3) (by omega) (by omega), h (o + 4) (by omega) (by omega), h (o + 5) (by omega) (by omega), h (o + 6) (by omega) (by omega)]
theorem sho_congr {f g : F} {o : Nat} (h : ∀ j, o ≤ j → j < o + 6 → f j = g j) : sho f o = sho g o := by
  unfold sho
  rw [h o (by omega) (by omega), h (o + 1) (by omega) (by omega), h (o + 2) (by omega) (by omega), h (o + 3) (by omega) (by omega), h (o + 4) (by omega) (by omega), h (o + 5) (by omega) (by omega)]

/-! ### One body -/
def mulV (v : Int) : Int := v * 57344 / 65536
def walkB (b : Body) (n : Nat) : Body :=
  if n % 2 = n / 2 % 2 then { b with vx := mulV b.vx }
  else if n % 2 = 1 then { b with facing := -1, vx := clampV (hold (b.vx + -16384)) (-196608) 196608 }
  else { b with facing := 1, vx := clampV (hold (b.vx + 16384)) (-196608) 196608 }
def jumpV (b : Body) (n : Nat) : Int := if n / 4 % 2 = 1 ∧ b.y = 0 then 327680 else b.vy
def dropV (b : Body) (n : Nat) : Int := if 0 < b.y ∨ jumpV b n ≠ 0 then hold (jumpV b n - 21845) else jumpV b n
def fallB (b : Body) (n : Nat) : Body :=
  if hold (b.y + dropV b n) ≤ 0 then { b with y := 0, vy := 0 } else { b with y := hold (b.y + dropV b n), vy := dropV b n }
def slideB (b : Body) : Body :=
  if clampV (hold (b.x + b.vx)) 0 13107200 = hold (b.x + b.vx) then { b with x := clampV (hold (b.x + b.vx)) 0 13107200 }
  else { b with x := clampV (hold (b.x + b.vx)) 0 13107200, vx := 0 }
def moveB (b : Body) (n : Nat) : Body := slideB (fallB (walkB b n) n)
def bornB (i : Nat) : Body := if i = 1 then ⟨9830400, 0, 0, 0, 100, 0, -1⟩ else ⟨3276800, 0, 0, 0, 100, 0, 1⟩

/-! ### Shots -/
def freeK (f : F) : Nat :=
  if f 16 = 0 then 0 else if f 22 = 0 then 1 else if f 28 = 0 then 2 else if f 34 = 0 then 3 else if f 40 = 0 then 4 else if f 46 = 0 then 5 else if f 52 = 0 then 6 else if f 58 = 0 then 7 else 8
theorem freeK_eq (f : F) (k : Nat) (hk : k ≤ 8) (h : ∀ j, j < k → f (16 + j * 6) ≠ 0) (h0 : k < 8 → f (16 + k * 6) = 0) : freeK f = k := by
  have a0 := h 0; have a1 := h 1; have a2 := h 2; have a3 := h 3; have a4 := h 4; have a5 := h 5; have a6 := h 6; have a7 := h 7
  simp only [Nat.zero_mul, Nat.add_zero, Nat.reduceMul, Nat.reduceAdd] at a0 a1 a2 a3 a4 a5 a6 a7
  unfold freeK
  match k, hk with
  | 0, _ => rw [if_pos (h0 (by omega))]
  | 1, _ => rw [if_neg (a0 (by omega)), if_pos (h0 (by omega))]
  | 2, _ => rw [if_neg (a0 (by omega)), if_neg (a1 (by omega)), if_pos (h0 (by omega))]
  | 3, _ => rw [if_neg (a0 (by omega)), if_neg (a1 (by omega)), if_neg (a2 (by omega)), if_pos (h0 (by omega))]
  | 4, _ => rw [if_neg (a0 (by omega)), if_neg (a1 (by omega)), if_neg (a2 (by omega)), if_neg (a3 (by omega)), if_pos (h0 (by omega))]
  | 5, _ => rw [if_neg (a0 (by omega)), if_neg (a1 (by omega)), if_neg (a2 (by omega)), if_neg (a3 (by omega)), if_neg (a4 (by omega)), if_pos (h0 (by omega))]
  | 6, _ => rw [if_neg (a0 (by omega)), if_neg (a1 (by omega)), if_neg (a2 (by omega)), if_neg (a3 (by omega)), if_neg (a4 (by omega)), if_neg (a5 (by omega)), if_pos (h0 (by omega))]
  | 7, _ => rw [if_neg (a0 (by omega)), if_neg (a1 (by omega)), if_neg (a2 (by omega)), if_neg (a3 (by omega)), if_neg (a4 (by omega)), if_neg (a5 (by omega)), if_neg (a6 (by omega)), if_pos (h0 (by omega))]
  | 8, _ => rw [if_neg (a0 (by omega)), if_neg (a1 (by omega)), if_neg (a2 (by omega)), if_neg (a3 (by omega)), if_neg (a4 (by omega)), if_neg (a5 (by omega)), if_neg (a6 (by omega)), if_neg (a7 (by omega))]
theorem freeK_free (f : F) (h : freeK f < 8) : f (16 + freeK f * 6) = 0 := by
  unfold freeK at h ⊢
  (repeat' split at h) <;> simp_all
def shotOf (b : Body) (i : Nat) : Shot := ⟨1, b.x, hold (b.y + 65536), clampV b.facing (-1) 1 * 393216, i, 60⟩
def fireF (f : F) (i n : Nat) : F :=
  if 0 < f (2 + i * 7 + 5) then put f (2 + i * 7 + 5) (f (2 + i * 7 + 5) - 1)
  else if n / 16 % 2 = 1 ∧ freeK f < 8 then put (setS f (16 + freeK f * 6) (shotOf (bod f (2 + i * 7)) i)) (2 + i * 7 + 5) 15
  else f
def bodyF (f : F) (i n : Nat) : F := fireF (setB f (2 + i * 7) (moveB (bod f (2 + i * 7)) n)) i n
def absV (z : Int) : Int := if z = -9223372036854775808 then 9223372036854775807 else if z < 0 then -z else z
def nearV (a b r : Int) : Bool := decide (absV (hold (a - b)) ≤ r)
def zeroS : Shot := ⟨0, 0, 0, 0, 0, 0⟩
def whoV (s : Shot) : Nat := if s.owner % 2 = 0 then 1 else 0
def hitsV (s : Shot) (b : Body) : Bool := nearV s.x b.x 262144 && nearV s.y (hold (b.y + 65536)) 393216
def painV (seed : Int) (n : Nat) : Int := if n / 32 % 2 = 1 then 4 + seed / 65536 % 3 else 10
def hurtF (f : F) (who n : Nat) : F :=
  if 0 < f (2 + who * 7 + 4) - painV (f 1) n then put f (2 + who * 7 + 4) (f (2 + who * 7 + 4) - painV (f 1) n)
  else setB (put f (64 + (1 - who)) (f (64 + (1 - who)) + 1)) (2 + who * 7) (bornB who)
def goneV (s : Shot) : Bool := decide (s.frames ≤ 0) || decide (s.x < 0) || decide (13107200 < s.x)
def flown (s : Shot) : Shot := { s with x := hold (s.x + s.vx), frames := s.frames - 1 }
def flyF (f : F) (k : Nat) (n : Nat → Nat) : F :=
  let s := flown (sho f (16 + k * 6))
  if goneV s then setS f (16 + k * 6) zeroS
  else if hitsV s (bod f (2 + whoV s * 7)) then hurtF (setS f (16 + k * 6) zeroS) (whoV s) (n (whoV s))
  else setS f (16 + k * 6) s
def fliesF (f : F) (n : Nat → Nat) : Nat → F
  | 0 => f
  | k + 1 => if fliesF f n k (16 + k * 6) = 0 then fliesF f n k else flyF (fliesF f n k) k n
def rollV (s : Int) : Int := (s * 1664525 + 1013904223) % 4294967296
def headF (f : F) : F := put (put f 0 (f 0 + 1)) 1 (rollV (f 1))
def stepF (f : F) (n : Nat → Nat) : F := fliesF (bodyF (bodyF (headF f) 0 (n 0)) 1 (n 1)) n 8
def newF (seed : Int) : F := setB (setB (put (fun _ => 0) 1 seed) 2 (bornB 0)) 9 (bornB 1)

/-! ### What stays true -/
structure BodyOk (b : Body) : Prop where
  x0 : 0 ≤ b.x
  x1 : b.x ≤ 13107200
  y0 : 0 ≤ b.y
  y1 : b.y ≤ 9223372036854775807
  vx0 : -196608 ≤ b.vx
  vx1 : b.vx ≤ 196608
  vy0 : -9223372036854775808 ≤ b.vy
  vy1 : b.vy ≤ 9223372036854775807
  l0 : 1 ≤ b.life
  l1 : b.life ≤ 100
  c0 : 0 ≤ b.cool
  c1 : b.cool ≤ 15
  fc : b.facing = 1 ∨ b.facing = -1
structure ShotIn (s : Shot) : Prop where
  on : s.on = 1
  x0 : 0 ≤ s.x
  x1 : s.x ≤ 13107200
  y0 : -9223372036854775808 ≤ s.y
  y1 : s.y ≤ 9223372036854775807
  vx : s.vx = 393216 ∨ s.vx = -393216
  ow : s.owner = 0 ∨ s.owner = 1
  f0 : 1 ≤ s.frames
  f1 : s.frames ≤ 60
def ShotOk (s : Shot) : Prop := s = zeroS ∨ ShotIn s
structure Inv (fr sc : Int) (f : F) : Prop where
  frame : f 0 = fr
  seed0 : 0 ≤ f 1
  seed1 : f 1 < 4294967296
  b : ∀ i, i < 2 → BodyOk (bod f (2 + i * 7))
  s : ∀ k, k < 8 → ShotOk (sho f (16 + k * 6))
  p0 : 0 ≤ f 64
  p1 : f 64 ≤ sc
  q0 : 0 ≤ f 65
  q1 : f 65 ≤ sc

theorem hold_le {z : Int} : -9223372036854775808 ≤ hold z ∧ hold z ≤ 9223372036854775807 := hold_bd z
theorem clampV_in (z : Int) {a b : Int} (h : a ≤ b) : a ≤ clampV z a b ∧ clampV z a b ≤ b := by unfold clampV; omega
theorem bornB_ok (i : Nat) : BodyOk (bornB i) := by
  unfold bornB
  split <;> constructor <;> simp
theorem mulV_in {v : Int} (h0 : -196608 ≤ v) (h1 : v ≤ 196608) : -196608 ≤ mulV v ∧ mulV v ≤ 196608 := by unfold mulV; omega
theorem walkB_ok {b : Body} (h : BodyOk b) (n : Nat) : BodyOk (walkB b n) := by
  unfold walkB
  have m := mulV_in h.vx0 h.vx1
  split
  · exact { h with vx0 := m.1, vx1 := m.2 }
  · split
    · have c := clampV_in (hold (b.vx + -16384)) (a := -196608) (b := 196608) (by omega)
      exact { h with vx0 := c.1, vx1 := c.2, fc := .inr rfl }
    · have c := clampV_in (hold (b.vx + 16384)) (a := -196608) (b := 196608) (by omega)
      exact { h with vx0 := c.1, vx1 := c.2, fc := .inl rfl }
theorem jumpV_in {b : Body} (h : BodyOk b) (n : Nat) : -9223372036854775808 ≤ jumpV b n ∧ jumpV b n ≤ 9223372036854775807 := by
  unfold jumpV
  split
  · omega
  · exact ⟨h.vy0, h.vy1⟩
theorem dropV_in {b : Body} (h : BodyOk b) (n : Nat) : -9223372036854775808 ≤ dropV b n ∧ dropV b n ≤ 9223372036854775807 := by
  unfold dropV
  split
  · exact hold_bd _
  · exact jumpV_in h n
theorem fallB_ok {b : Body} (h : BodyOk b) (n : Nat) : BodyOk (fallB b n) := by
  unfold fallB
  have d := dropV_in h n
  split
  · exact { h with y0 := by simp, y1 := by simp, vy0 := by simp, vy1 := by simp }
  · exact { h with y0 := by simp only []; omega, y1 := (hold_bd _).2, vy0 := d.1, vy1 := d.2 }
theorem slideB_ok {b : Body} (h : BodyOk b) : BodyOk (slideB b) := by
  unfold slideB
  have c := clampV_in (hold (b.x + b.vx)) (a := 0) (b := 13107200) (by omega)
  split
  · exact { h with x0 := c.1, x1 := c.2 }
  · exact { h with x0 := c.1, x1 := c.2, vx0 := by simp, vx1 := by simp }
theorem moveB_ok {b : Body} (h : BodyOk b) (n : Nat) : BodyOk (moveB b n) := slideB_ok (fallB_ok (walkB_ok h n) n)

section
variable {fr sc : Int} {f : F}
theorem Inv.setB (h : Inv fr sc f) {i : Nat} (hi : i < 2) {b : Body} (hb : BodyOk b) : Inv fr sc (setB f (2 + i * 7) b) := by
  have o : ∀ j, j < 2 + i * 7 ∨ 2 + i * 7 + 7 ≤ j → Gm.setB f (2 + i * 7) b j = f j := fun j hj => setB_out f _ b hj
  refine ⟨by rw [o 0 (by omega)]; exact h.frame, by rw [o 1 (by omega)]; exact h.seed0, by rw [o 1 (by omega)]; exact h.seed1, ?_, ?_, by rw [o 64 (by omega)]; exact h.p0, by rw [o 64 (by omega)]; exact h.p1, by rw [o 65 (by omega)]; exact h.q0, by rw [o 65 (by omega)]; exact h.q1⟩
  · intro j hj
    by_cases e : j = i
    · subst e; rw [setB_bod]; exact hb
    · rw [bod_congr (g := f) (fun k h1 h2 => o k (by omega))]; exact h.b j hj
  · intro k hk
    rw [sho_congr (g := f) (fun j h1 h2 => o j (by omega))]; exact h.s k hk
theorem Inv.setS (h : Inv fr sc f) {k : Nat} (hk : k < 8) {s : Shot} (hs : ShotOk s) : Inv fr sc (setS f (16 + k * 6) s) := by
  have o : ∀ j, j < 16 + k * 6 ∨ 16 + k * 6 + 6 ≤ j → Gm.setS f (16 + k * 6) s j = f j := fun j hj => setS_out f _ s hj
  refine ⟨by rw [o 0 (by omega)]; exact h.frame, by rw [o 1 (by omega)]; exact h.seed0, by rw [o 1 (by omega)]; exact h.seed1, ?_, ?_, by rw [o 64 (by omega)]; exact h.p0, by rw [o 64 (by omega)]; exact h.p1, by rw [o 65 (by omega)]; exact h.q0, by rw [o 65 (by omega)]; exact h.q1⟩
  · intro i hi
    rw [bod_congr (g := f) (fun k h1 h2 => o k (by omega))]; exact h.b i hi
  · intro j hj
    by_cases e : j = k
    · subst e; rw [setS_sho]; exact hs
    · rw [sho_congr (g := f) (fun j h1 h2 => o j (by omega))]; exact h.s j hj
/-- One number of a body. -/
theorem put_setB (f : F) (o : Nat) {j : Nat} (hj : j < 7) (v : Int) : ∃ b, put f (o + j) v = setB f o b ∧ b = bod (put f (o + j) v) o := by
  refine ⟨_, ?_, rfl⟩
  funext k
  unfold setB bod
  simp only [put]
  (repeat' split) <;> (first | rfl | omega | (subst_vars; rfl))
theorem Inv.put (h : Inv fr sc f) {i j : Nat} (hi : i < 2) (hj : j < 7) {v : Int} (hb : BodyOk (bod (put f (2 + i * 7 + j) v) (2 + i * 7))) : Inv fr sc (put f (2 + i * 7 + j) v) := by
  obtain ⟨b, e, rfl⟩ := put_setB f (2 + i * 7) hj v
  rw [e]
  exact h.setB hi hb
theorem shotOf_ok {b : Body} (h : BodyOk b) {i : Nat} (hi : i < 2) : ShotOk (shotOf b i) := by
  refine .inr ⟨rfl, h.x0, h.x1, (hold_bd _).1, (hold_bd _).2, ?_, ?_, by simp [shotOf], by simp [shotOf]⟩
  · rcases h.fc with e | e <;> simp [shotOf, e, clampV] <;> omega
  · show (i : Int) = 0 ∨ (i : Int) = 1
    omega
theorem bod_cool (f : F) (o : Nat) (v : Int) : bod (put f (o + 5) v) o = { bod f o with cool := v } := by simp [bod, put]
theorem bod_life (f : F) (o : Nat) (v : Int) : bod (put f (o + 4) v) o = { bod f o with life := v } := by simp [bod, put]
theorem Inv.fire (h : Inv fr sc f) {i : Nat} (hi : i < 2) (n : Nat) : Inv fr sc (fireF f i n) := by
  unfold fireF
  have hb := h.b i hi
  split
  · rename_i c
    refine h.put hi (by omega) ?_
    rw [bod_cool]
    have c1 := hb.c1
    simp only [bod] at c1
    exact { hb with c0 := by simp only []; omega, c1 := by simp only []; omega }
  · split
    · rename_i c
      refine (h.setS c.2 (shotOf_ok hb hi)).put hi (by omega) ?_
      rw [bod_cool]
      exact { (h.setS c.2 (shotOf_ok hb hi)).b i hi with c0 := by simp, c1 := by simp }
    · exact h
theorem Inv.body (h : Inv fr sc f) {i : Nat} (hi : i < 2) (n : Nat) : Inv fr sc (bodyF f i n) := (h.setB hi (moveB_ok (h.b i hi) n)).fire hi n
theorem Inv.mono (h : Inv fr sc f) {sc' : Int} (hs : sc ≤ sc') : Inv fr sc' f := { h with p1 := Int.le_trans h.p1 hs, q1 := Int.le_trans h.q1 hs }
theorem painV_in {s : Int} (h0 : 0 ≤ s) (n : Nat) : 1 ≤ painV s n ∧ painV s n ≤ 10 := by unfold painV; split <;> omega
theorem Inv.score (h : Inv fr sc f) {who : Nat} (hw : who < 2) : Inv fr (sc + 1) (Gm.put f (64 + (1 - who)) (f (64 + (1 - who)) + 1)) := by
  have e : who = 0 ∨ who = 1 := by omega
  have p0 := h.p0
  have p1 := h.p1
  have q0 := h.q0
  have q1 := h.q1
  have o : ∀ j, j < 64 → Gm.put f (64 + (1 - who)) (f (64 + (1 - who)) + 1) j = f j := fun j hj => put_ne f _ (by omega)
  refine ⟨by rw [o 0 (by omega)]; exact h.frame, by rw [o 1 (by omega)]; exact h.seed0, by rw [o 1 (by omega)]; exact h.seed1, ?_, ?_, ?_, ?_, ?_, ?_⟩
  · intro i hi
    rw [bod_congr (g := f) (fun k h1 h2 => o k (by omega))]; exact h.b i hi
  · intro k hk
    rw [sho_congr (g := f) (fun j h1 h2 => o j (by omega))]; exact h.s k hk
  all_goals (rcases e with rfl | rfl <;> simp [Gm.put] <;> omega)
theorem Inv.hurt (h : Inv fr sc f) {who : Nat} (hw : who < 2) (n : Nat) : Inv fr (sc + 1) (hurtF f who n) := by
  unfold hurtF
  have p := painV_in h.seed0 n
  have hb := h.b who hw
  split
  · refine (h.mono (by omega)).put hw (by omega) ?_
    rw [bod_life]
    have l1 := hb.l1
    simp only [bod] at l1
    exact { hb with l0 := by simp only []; omega, l1 := by simp only []; omega }
  · exact (h.score hw).setB hw (bornB_ok who)
theorem whoV_lt (s : Shot) : whoV s < 2 := by unfold whoV; split <;> omega
theorem Inv.fly (h : Inv fr sc f) {k : Nat} (hk : k < 8) (hon : f (16 + k * 6) ≠ 0) (n : Nat → Nat) : Inv fr (sc + 1) (flyF f k n) := by
  unfold flyF
  simp only []
  split
  · exact (h.setS hk (.inl rfl)).mono (by omega)
  · rename_i hg
    split
    · exact (h.setS hk (.inl rfl)).hurt (whoV_lt _) _
    · refine (h.setS hk (.inr ?_)).mono (by omega)
      have hs : ShotIn (sho f (16 + k * 6)) := (h.s k hk).resolve_left fun e => hon (congrArg Shot.on e)
      simp only [goneV, Bool.or_eq_true, decide_eq_true_eq, not_or] at hg
      have f1 := hs.f1
      exact { hs with x0 := by omega, x1 := by omega, f0 := by omega, f1 := by simp only [flown]; omega }
theorem Inv.flies (h : Inv fr sc f) (n : Nat → Nat) : ∀ k : Nat, k ≤ 8 → Inv fr (sc + k) (fliesF f n k)
  | 0, _ => by simpa [fliesF] using h
  | k + 1, hk => by
    have ih := Inv.flies h n k (by omega)
    unfold fliesF
    split
    · exact ih.mono (by omega)
    · rename_i hon
      have := ih.fly (by omega) hon n
      rw [show sc + ((k + 1 : Nat) : Int) = sc + (k : Int) + 1 by omega]
      exact this
theorem Inv.head (h : Inv fr sc f) : Inv (fr + 1) sc (headF f) := by
  have o : ∀ j, 2 ≤ j → headF f j = f j := fun j hj => by simp [headF, Gm.put]; omega
  refine ⟨by simp [headF, Gm.put, h.frame], by simp [headF, Gm.put, rollV]; omega, by simp [headF, Gm.put, rollV]; omega, ?_, ?_, by rw [o 64 (by omega)]; exact h.p0, by rw [o 64 (by omega)]; exact h.p1, by rw [o 65 (by omega)]; exact h.q0, by rw [o 65 (by omega)]; exact h.q1⟩
  · intro i hi
    rw [bod_congr (g := f) (fun k h1 h2 => o k (by omega))]; exact h.b i hi
  · intro k hk
    rw [sho_congr (g := f) (fun j h1 h2 => o j (by omega))]; exact h.s k hk
theorem Inv.step (h : Inv fr sc f) (n : Nat → Nat) : Inv (fr + 1) (sc + 8) (stepF f n) := ((h.head.body (by omega) _).body (by omega) _).flies n 8 (by omega)
theorem Inv.new (seed : Int) (h0 : 0 ≤ seed) (h1 : seed < 4294967296) : Inv 0 0 (newF seed) := by
  have z : Inv 0 0 (newF seed) := by
    refine ⟨rfl, h0, h1, ?_, ?_, (show (0 : Int) ≤ 0 by decide), (show (0 : Int) ≤ 0 by decide), (show (0 : Int) ≤ 0 by decide), (show (0 : Int) ≤ 0 by decide)⟩
    · intro i hi
      have e : i = 0 ∨ i = 1 := by omega
      rcases e with rfl | rfl
      · exact bornB_ok 0
      · exact bornB_ok 1
    · intro k hk
      refine .inl ?_
      unfold newF
      rw [sho_congr (g := fun _ => 0) (fun j h1 h2 => by rw [setB_out _ _ _ (by omega), setB_out _ _ _ (by omega), put_ne _ _ (by omega)])]
      rfl
  exact z

/-! ### The score doesn't fall -/
def Up (f g : F) : Prop := f 64 ≤ g 64 ∧ f 65 ≤ g 65
theorem Up.of {f g : F} (h : g 64 = f 64) (h' : g 65 = f 65) : Up f g := ⟨by omega, by omega⟩
theorem Up.trans {f g k : F} (h : Up f g) (h' : Up g k) : Up f k := ⟨Int.le_trans h.1 h'.1, Int.le_trans h.2 h'.2⟩
theorem up_setB (f : F) {i : Nat} (hi : i < 2) (b : Body) : Up f (Gm.setB f (2 + i * 7) b) := .of (setB_out _ _ _ (by omega)) (setB_out _ _ _ (by omega))
theorem up_setS (f : F) {k : Nat} (hk : k < 8) (s : Shot) : Up f (Gm.setS f (16 + k * 6) s) := .of (setS_out _ _ _ (by omega)) (setS_out _ _ _ (by omega))
theorem up_put (f : F) {k : Nat} (hk : k < 64) (v : Int) : Up f (Gm.put f k v) := .of (put_ne _ _ (by omega)) (put_ne _ _ (by omega))
theorem up_fire (f : F) {i : Nat} (hi : i < 2) (n : Nat) : Up f (fireF f i n) := by
  unfold fireF
  split
  · exact up_put _ (by omega) _
  · split
    · rename_i c
      exact (up_setS f c.2 _).trans (up_put _ (by omega) _)
    · exact .of rfl rfl
theorem up_hurt (f : F) {who : Nat} (hw : who < 2) (n : Nat) : Up f (hurtF f who n) := by
  unfold hurtF
  split
  · exact up_put _ (by omega) _
  · refine Up.trans ?_ (up_setB _ hw _)
    have e : who = 0 ∨ who = 1 := by omega
    rcases e with rfl | rfl <;> simp [Up, Gm.put] <;> omega
theorem up_fly (f : F) {k : Nat} (hk : k < 8) (n : Nat → Nat) : Up f (flyF f k n) := by
  unfold flyF
  simp only []
  split
  · exact up_setS f hk _
  · split
    · exact (up_setS f hk _).trans (up_hurt _ (whoV_lt _) _)
    · exact up_setS f hk _
theorem up_flies (f : F) (n : Nat → Nat) : ∀ k : Nat, k ≤ 8 → Up f (fliesF f n k)
  | 0, _ => .of rfl rfl
  | k + 1, hk => by
    have ih := up_flies f n k (by omega)
    unfold fliesF
    split
    · exact ih
    · exact ih.trans (up_fly _ (by omega) _)
theorem up_step (f : F) (n : Nat → Nat) : Up f (stepF f n) :=
  ((((Up.of (by simp [headF, Gm.put]) (by simp [headF, Gm.put])).trans (up_setB _ (by omega) _)).trans (up_fire _ (by omega) _)).trans ((up_setB _ (by omega) _).trans (up_fire _ (by omega) _))).trans (up_flies _ n 8 (by omega))
end
end Go.Proofs.Ytlhoffhagfhbcaa.Gm
namespace Go.Proofs.Ytlhoffhagfhbcaa.Gm
open Go.RowKit Go.Proofs.Ytlhoffhagfhbcaa.Num
set_option linter.all false

/-- Is a number a yes? -/
def onB (z : Int) : Bool := decide (z ≠ 0)
theorem onB_yes {z : Int} (h : z ≠ 0) : onB z = true := by simp [onB, h]
theorem onB_no {z : Int} (h : z = 0) : onB z = false := by simp [onB, h]
/-- A state's cell. -/
def cv (j : Nat) (z : Int) : Value := if j = 1 then .int .u32 z else if 16 ≤ j ∧ j < 64 ∧ (j - 16) % 6 = 0 then .bool (onB z) else .int .i64 z
def stA (f : F) : Array Value := Array.ofFn (n := 66) fun j => cv j.1 (f j.1)
def stV (f : F) : Value := .agg (stA f)
theorem stA_size (f : F) : (stA f).size = 66 := by simp [stA]
theorem stA_get (f : F) {j : Nat} (h : j < 66) : (stA f)[j]? = some (cv j (f j)) := by simp [stA, h]
theorem cv_one (j : Nat) (z : Int) : (cv j z).oneCell' = true := by unfold cv; (repeat' split) <;> rfl
theorem stA_one (f : F) : (stA f).all (·.oneCell') = true := by
  rw [Array.all_eq_true]
  intro i h
  simp only [stA, Array.getElem_ofFn]
  exact cv_one _ _
theorem stA_put (f : F) {j : Nat} (h : j < 66) (z : Int) : (stA f).setIfInBounds j (cv j z) = stA (put f j z) := by
  apply Array.ext_getElem?
  intro i
  rw [Array.getElem?_setIfInBounds]
  by_cases hi : i < 66
  · rw [stA_get _ hi, stA_get _ hi]
    by_cases e : j = i
    · subst e; simp [stA_size, hi, put]
    · simp [e, put, show ¬ i = j from fun x => e x.symm]
  · have h1 : (stA f)[i]? = none := Array.getElem?_eq_none (by rw [stA_size]; omega)
    have h2 : (stA (put f j z))[i]? = none := Array.getElem?_eq_none (by rw [stA_size]; omega)
    rw [h1, h2]
    have e : j ≠ i := by omega
    simp [e]
theorem cv_int {j : Nat} (z : Int) (h1 : j ≠ 1) (h2 : ¬ (16 ≤ j ∧ j < 64 ∧ (j - 16) % 6 = 0)) : cv j z = .int .i64 z := by unfold cv; rw [if_neg h1, if_neg h2]
theorem cv_seed (z : Int) : cv 1 z = .int .u32 z := rfl
theorem cv_on {k : Nat} (hk : k < 8) (z : Int) : cv (16 + k * 6) z = .bool (onB z) := by unfold cv; rw [if_neg (by omega), if_pos (by omega)]
theorem stA_congr {f g : F} (h : ∀ j, j < 66 → f j = g j) : stA f = stA g := by
  apply Array.ext_getElem?
  intro i
  by_cases hi : i < 66
  · rw [stA_get _ hi, stA_get _ hi, h i hi]
  · rw [Array.getElem?_eq_none (by rw [stA_size]; omega), Array.getElem?_eq_none (by rw [stA_size]; omega)]

/-- A block that holds a state (the block's type is its own). -/
def SB (w : World) (g : Nat) (t : TypeId) (f : F) : Prop := Blk w g t (stA f)
section
variable {S : Nat → Prop} {w w' : World} {g : Nat} {t : TypeId} {f : F}
theorem SB.lt (h : SB w g t f) : g < w.heap.size := Blk.lt h
theorem SB.at_ (h : SB w g t f) {j : Nat} (hj : j < 66) : w.cell? ⟨g, j, none⟩ = some (cv j (f j)) := (Blk.cell h j).trans (stA_get f hj)
theorem SB.fr (h : SB w g t f) (j : Nat) : w.frozen? ⟨g, j, none⟩ = false := Blk.frozen h j
theorem SB.int (h : SB w g t f) {j : Nat} (hj : j < 66) (h1 : j ≠ 1) (h2 : ¬ (16 ≤ j ∧ j < 64 ∧ (j - 16) % 6 = 0)) : w.cell? ⟨g, j, none⟩ = some (.int .i64 (f j)) := by rw [h.at_ hj, cv_int _ h1 h2]
theorem SB.seed (h : SB w g t f) : w.cell? ⟨g, 1, none⟩ = some (.int .u32 (f 1)) := h.at_ (by omega)
theorem SB.on (h : SB w g t f) {k : Nat} (hk : k < 8) : w.cell? ⟨g, 16 + k * 6, none⟩ = some (.bool (onB (f (16 + k * 6)))) := by rw [h.at_ (by omega), cv_on hk]
theorem SB.body (h : SB w g t f) {i j : Nat} (hi : i < 2) (hj : j < 7) : w.cell? ⟨g, 2 + i * 7 + j, none⟩ = some (.int .i64 (f (2 + i * 7 + j))) := h.int (by omega) (by omega) (by omega)
theorem SB.shot (h : SB w g t f) {k j : Nat} (hk : k < 8) (hj : j < 6) (h0 : 0 < j) : w.cell? ⟨g, 16 + k * 6 + j, none⟩ = some (.int .i64 (f (16 + k * 6 + j))) := h.int (by omega) (by omega) (by omega)
theorem SB.score (h : SB w g t f) {i : Nat} (hi : i < 2) : w.cell? ⟨g, 64 + i, none⟩ = some (.int .i64 (f (64 + i))) := h.int (by omega) (by omega) (by omega)
theorem SB.set_ (h : SB w g t f) {j : Nat} (hj : j < 66) (z : Int) : SB (w.setCell ⟨g, j, none⟩ (cv j z)) g t (put f j z) := by
  unfold SB
  rw [← stA_put f hj z]
  exact Blk.set_ h j _
theorem SB.setInt (h : SB w g t f) {j : Nat} (hj : j < 66) (h1 : j ≠ 1) (h2 : ¬ (16 ≤ j ∧ j < 64 ∧ (j - 16) % 6 = 0)) (z : Int) : SB (w.setCell ⟨g, j, none⟩ (.int .i64 z)) g t (put f j z) := by
  have := h.set_ hj z
  rwa [cv_int _ h1 h2] at this
theorem SB.drew (h : SB w g t f) : SB w.drew g t f := h
theorem SB.drewN (h : SB w g t f) (n : Nat) : SB (w.drewN n) g t f := h
theorem SB.alloc (h : SB w g t f) (o : Obj) : SB (w.alloc o) g t f := Blk.alloc h o
theorem SB.far (h : SB w g t f) {p : Addr} (hp : g ≠ p.block) (u : Value) : SB (w.setCell p u) g t f := Blk.far h hp u
theorem SB.below {B : Nat} (h : SB w g t f) (hb : Below B w w') (hB : g < B) : SB w' g t f := Blk.below h hb hB
theorem SB.touch (h : SB w g t f) (hb : Touch S w w') (hg : ¬ S g) : SB w' g t f := Blk.touch h hb hg
theorem SB.congr {f' : F} (h : SB w g t f) (hf : ∀ j, j < 66 → f j = f' j) : SB w g t f' := by unfold SB; rw [← stA_congr hf]; exact h
theorem SB.new (w : World) (t : TypeId) (f : F) : SB (w.alloc (.cells (stA f) t)) w.heap.size t f := Blk.new _ _ _
end

/-! ### A body, a shot as values -/
def bodL (b : Body) : List Value := [.int .i64 b.x, .int .i64 b.y, .int .i64 b.vx, .int .i64 b.vy, .int .i64 b.life, .int .i64 b.cool, .int .i64 b.facing]
def bodV (b : Body) : Value := .agg (bodL b).toArray
def shoL (s : Shot) : List Value := [.bool (onB s.on), .int .i64 s.x, .int .i64 s.y, .int .i64 s.vx, .int .i64 s.owner, .int .i64 s.frames]
def shoV (s : Shot) : Value := .agg (shoL s).toArray
section
variable {S : Nat → Prop} {w w' : World} {g : Nat} {t : TypeId} {f : F}
theorem SB.bodR (h : SB w g t f) {i : Nat} (hi : i < 2) : w.rangeAt g (2 + i * 7) (bodL (bod f (2 + i * 7))) := by
  intro j v hv
  match j, hv with
  | 0, hv => cases hv; exact h.body hi (j := 0) (by omega)
  | 1, hv => cases hv; exact h.body hi (j := 1) (by omega)
  | 2, hv => cases hv; exact h.body hi (j := 2) (by omega)
  | 3, hv => cases hv; exact h.body hi (j := 3) (by omega)
  | 4, hv => cases hv; exact h.body hi (j := 4) (by omega)
  | 5, hv => cases hv; exact h.body hi (j := 5) (by omega)
  | 6, hv => cases hv; exact h.body hi (j := 6) (by omega)
  | k + 7, hv => simp [bodL] at hv
theorem SB.shoR (h : SB w g t f) {k : Nat} (hk : k < 8) : w.rangeAt g (16 + k * 6) (shoL (sho f (16 + k * 6))) := by
  intro j v hv
  match j, hv with
  | 0, hv => cases hv; exact h.on hk
  | 1, hv => cases hv; exact h.shot hk (j := 1) (by omega) (by omega)
  | 2, hv => cases hv; exact h.shot hk (j := 2) (by omega) (by omega)
  | 3, hv => cases hv; exact h.shot hk (j := 3) (by omega) (by omega)
  | 4, hv => cases hv; exact h.shot hk (j := 4) (by omega) (by omega)
  | 5, hv => cases hv; exact h.shot hk (j := 5) (by omega) (by omega)
  | k + 6, hv => simp [shoL] at hv
theorem SB.there (h : SB w g t f) {o n : Nat} (ho : o + n ≤ 66) : w.there g o n := fun j hj => ⟨by rw [h.at_ (j := o + j) (by omega)]; rfl, h.fr _⟩
theorem SB.setBody (h : SB w g t f) {i : Nat} (hi : i < 2) (b : Body) : SB (w.setCells g (2 + i * 7) (bodL b)) g t (setB f (2 + i * 7) b) := by
  unfold setB
  exact ((((((h.setInt (j := 2 + i * 7) (by omega) (by omega) (by omega) b.x).setInt (j := 2 + i * 7 + 1) (by omega) (by omega) (by omega) b.y).setInt (j := 2 + i * 7 + 2) (by omega) (by omega) (by omega) b.vx).setInt (j := 2 + i * 7 + 3) (by omega) (by omega) (by omega) b.vy).setInt (j := 2 + i * 7 + 4) (by omega) (by omega) (by omega) b.life).setInt (j := 2 + i * 7 + 5) (by omega) (by omega) (by omega) b.cool).setInt (j := 2 + i * 7 + 6) (by omega) (by omega) (by omega) b.facing
theorem SB.setOn (h : SB w g t f) {k : Nat} (hk : k < 8) (z : Int) : SB (w.setCell ⟨g, 16 + k * 6, none⟩ (.bool (onB z))) g t (put f (16 + k * 6) z) := by
  have := h.set_ (j := 16 + k * 6) (by omega) z
  rwa [cv_on hk] at this
theorem SB.setShot (h : SB w g t f) {k : Nat} (hk : k < 8) (s : Shot) : SB (w.setCells g (16 + k * 6) (shoL s)) g t (setS f (16 + k * 6) s) := by
  unfold setS
  exact (((((h.setOn hk s.on).setInt (j := 16 + k * 6 + 1) (by omega) (by omega) (by omega) s.x).setInt (j := 16 + k * 6 + 2) (by omega) (by omega) (by omega) s.y).setInt (j := 16 + k * 6 + 3) (by omega) (by omega) (by omega) s.vx).setInt (j := 16 + k * 6 + 4) (by omega) (by omega) (by omega) s.owner).setInt (j := 16 + k * 6 + 5) (by omega) (by omega) (by omega) s.frames
theorem touch_cells (h : Touch S w w') (g : Nat) (hg : S g ∨ w.heap.size ≤ g) : ∀ (vs : List Value) (o : Nat), Touch S w (w'.setCells g o vs) := by
  intro vs
  induction vs generalizing w' with
  | nil => intro o; exact h
  | cons v r ih => intro o; exact ih (h.setCell (p := ⟨g, o, none⟩) hg v) (o + 1)
end
end Go.Proofs.Ytlhoffhagfhbcaa.Gm
