/-
  The walks of backstayref01: Turn, Plus, Held, Add, Sub: the sum and the difference, held at the limits.
-/
import Derived.Test.YtblnfkhaicjeaaaNum
namespace Go.Proofs.Ytblnfkhaicjeaaa.Num
open Go.RowKit
set_option linter.all false

theorem box1 (w : World) (s : Bool) (f : Nat → Nat) : ∃ W1, W1 = (w.alloc (.cells (wcs s f) 198)).alloc (.cells wz 198) ∧ WB W1 w.heap.size s f ∧ WB W1 (w.heap.size + 1) false (fun _ => 0) ∧ Below w.heap.size w W1 := by
  refine ⟨_, rfl, (WB.new _ _ _).alloc _, ?_, ((Below.refl _ w).alloc (Nat.le_refl _) _).alloc (by simp) _⟩
  have := WB.zero (w.alloc (.cells (wcs s f) 198))
  simpa using this

set_option maxRecDepth 100000 in
set_option maxHeartbeats 2000000 in
theorem turn_any (w : World) (s : Bool) (m : Nat) :
    Calls Try.prog 137 #[wv s m] w fun e w' => e = .returned (wv (!s) m) ∧ Below w.heap.size w w' := by
  obtain ⟨W1, hW1, ha, hc, hB⟩ := box1 w s (dig m)
  unfold wv wcs
  unfold wcs wz at hW1
  obtain ⟨k0, k1, k2, k3, k4, k5, k6, k7, k8, k9⟩ := ha.cells
  have f0 := ha.fr 0
  obtain ⟨g0, g1, g2, g3, g4, g5, g6, g7, g8, g9⟩ := hc.frs
  obtain ⟨h0, h1, h2, h3, h4, h5, h6, h7, h8, h9⟩ := hc.cells
  go_enter Try.func137, Try.ntmps137
  go_upto_region 1 with fail
  rw [← hW1]
  clear hW1
  go_wp2_with fail
  refine bodyPost_ret (v := .agg #[.bool !s, .int .u64 (dig (m) 0), .int .u64 (dig (m) 1), .int .u64 (dig (m) 2), .int .u64 (dig (m) 3), .int .u64 (dig (m) 4), .int .u64 (dig (m) 5), .int .u64 (dig (m) 6), .int .u64 (dig (m) 7), .int .u64 (dig (m) 8)]) (by simp [results, Try.results137, go_sem, h0, h1, h2, h3, h4, h5, h6, h7, h8, h9]) rfl ⟨rfl, ?_⟩
  repeat (refine Below.setCell ?_ (by simp) _)
  exact hB

/-- A wide number as a whole one. -/
def sv (s : Bool) (m : Nat) : Int := if s then -(m : Int) else (m : Int)
/-- What Plus makes of signs and amounts. -/
def plusS (sa sb : Bool) (m n : Nat) : Bool := if sa = sb then sa else if m < n then sb else sa
def plusM (sa sb : Bool) (m n : Nat) : Nat := if sa = sb then m + n else if m < n then n - m else m - n

theorem setb (w : World) (b : Nat) (s s' : Bool) (f : Nat → Nat) (h : WB w b s f) : WB (w.setCell ⟨b, 0, none⟩ (.bool s')) b s' f := Blk.set_ h 0 (.bool s')

set_option maxRecDepth 100000 in
set_option maxHeartbeats 4000000 in
theorem Plus_any (w : World) (sa sb : Bool) (m n : Nat) (hm : m < 65536 ^ 9) (hn : n < 65536 ^ 9) :
    Calls Try.prog 135 #[wv sa m, wv sb n] w fun e w' => e = .returned (wv (plusS sa sb m n) (plusM sa sb m n)) ∧ Below w.heap.size w w' := by
  obtain ⟨W1, hW1, ha, hb, hc, hB1, hz1⟩ := boxes2 w sa sb (dig m) (dig n)
  have pP := plus_any W1 sa sb m n
  have pL := less_any W1 sa sb m n hm hn
  unfold wv wcs
  unfold wcs wz at hW1
  unfold wv wcs at pP pL
  have pP := Lib.hid pP
  obtain ⟨k0, k1, k2, k3, k4, k5, k6, k7, k8, k9⟩ := ha.cells
  obtain ⟨j0, j1, j2, j3, j4, j5, j6, j7, j8, j9⟩ := hb.cells
  have hz1l : w.heap.size + 3 ≤ W1.heap.size := by omega
  clear hz1
  by_cases hs : sa = sb
  · subst hs
    have e1 : plusS sa sa m n = sa := by simp [plusS]
    have e2 : plusM sa sa m n = m + n := by simp [plusM]
    rw [e1, e2]
    clear e1 e2 pL
    go_enter Try.func135, Try.ntmps135
    go_upto_region 1 with fail
    rw [← hW1]
    clear hW1
    go_wp2_with fail
    refine pP.out.mono ?_
    rintro e W2 ⟨rfl, hB2⟩
    have hc2 := hc.below hB2 (by omega)
    have hX2 := ha.below hB2 (by omega)
    have hz2 := hB2.size
    have hc3 := WB.alloc hc2 (.cells (wcs sa (dig (m + n))) 198)
    have hX3 := WB.alloc hX2 (.cells (wcs sa (dig (m + n))) 198)
    unfold wcs at hc3 hX3
    have q0 := hX3.cells.1
    obtain ⟨g0, g1, g2, g3, g4, g5, g6, g7, g8, g9⟩ := hc3.frs
    obtain ⟨h0, h1, h2, h3, h4, h5, h6, h7, h8, h9⟩ := hc3.cells
    have ne1 : ¬ w.heap.size + 1 + 1 = W2.heap.size := by omega
    have ne2 : ¬ w.heap.size = W2.heap.size := by omega
    have ne3 : ¬ w.heap.size + 1 = W2.heap.size := by omega
    have ne4 : ¬ W2.heap.size = w.heap.size + 1 + 1 := by omega
    go_wp2_with fail
    refine bodyPost_ret (v := .agg #[.bool sa, .int .u64 (dig (m + n) 0), .int .u64 (dig (m + n) 1), .int .u64 (dig (m + n) 2), .int .u64 (dig (m + n) 3), .int .u64 (dig (m + n) 4), .int .u64 (dig (m + n) 5), .int .u64 (dig (m + n) 6), .int .u64 (dig (m + n) 7), .int .u64 (dig (m + n) 8)]) (by simp [results, Try.results135, go_sem, h0, h1, h2, h3, h4, h5, h6, h7, h8, h9]) rfl ⟨rfl, ?_⟩
    repeat (refine Below.setCell ?_ (by simp; omega) _)
    first
      | exact (hB1.trans (hB2.mono (by omega))).alloc (by omega) _
      | exact ((hB1.trans (hB2.mono (by omega))).alloc (by omega) _).setCell (by simp; omega) _
  · have hs2 : (sa == sb) = false := by simpa using hs
    by_cases hlt : m < n
    · have e1 : plusS sa sb m n = sb := by simp [plusS, hs, hlt]
      have e2 : plusM sa sb m n = n - m := by simp [plusM, hs, hlt]
      rw [e1, e2]
      rw [decide_eq_true hlt] at pL
      have pM := fun W => minus_any W sb sa n m (by omega)
      unfold wv wcs at pM
      have pM := Lib.hid pM
      have pL := Lib.hid pL
      clear e1 e2 hs
      go_enter Try.func135, Try.ntmps135
      go_upto_region 1 with fail
      rw [← hW1]
      clear hW1
      go_wp2_with fail
      refine pL.out.mono ?_
      rintro e W1' ⟨rfl, hB1'⟩
      have ha := ha.below hB1' (by omega)
      have hb := hb.below hB1' (by omega)
      have hc := hc.below hB1' (by omega)
      have hB1 := hB1.trans (hB1'.mono (by omega))
      have hz1l : w.heap.size + 3 ≤ W1'.heap.size := by have := hB1'.size; omega
      clear k0 k1 k2 k3 k4 k5 k6 k7 k8 k9 j0 j1 j2 j3 j4 j5 j6 j7 j8 j9
      obtain ⟨k0, k1, k2, k3, k4, k5, k6, k7, k8, k9⟩ := ha.cells
      obtain ⟨j0, j1, j2, j3, j4, j5, j6, j7, j8, j9⟩ := hb.cells
      go_wp2_with fail
      refine (pM.out _).mono ?_
      rintro e W2 ⟨rfl, hB2⟩
      have hc2 := hc.below hB2 (by omega)
      have hX2 := hb.below hB2 (by omega)
      have hz2 := hB2.size
      have hc3 := WB.alloc hc2 (.cells (wcs sb (dig (n - m))) 198)
      have hX3 := WB.alloc hX2 (.cells (wcs sb (dig (n - m))) 198)
      unfold wcs at hc3 hX3
      have q0 := hX3.cells.1
      obtain ⟨g0, g1, g2, g3, g4, g5, g6, g7, g8, g9⟩ := hc3.frs
      obtain ⟨h0, h1, h2, h3, h4, h5, h6, h7, h8, h9⟩ := hc3.cells
      have ne1 : ¬ w.heap.size + 1 + 1 = W2.heap.size := by omega
      have ne2 : ¬ w.heap.size = W2.heap.size := by omega
      have ne3 : ¬ w.heap.size + 1 = W2.heap.size := by omega
      have ne4 : ¬ W2.heap.size = w.heap.size + 1 + 1 := by omega
      go_wp2_with fail
      refine bodyPost_ret (v := .agg #[.bool sb, .int .u64 (dig (n - m) 0), .int .u64 (dig (n - m) 1), .int .u64 (dig (n - m) 2), .int .u64 (dig (n - m) 3), .int .u64 (dig (n - m) 4), .int .u64 (dig (n - m) 5), .int .u64 (dig (n - m) 6), .int .u64 (dig (n - m) 7), .int .u64 (dig (n - m) 8)]) (by simp [results, Try.results135, go_sem, h0, h1, h2, h3, h4, h5, h6, h7, h8, h9]) rfl ⟨rfl, ?_⟩
      repeat (refine Below.setCell ?_ (by simp; omega) _)
      first
        | exact (hB1.trans (hB2.mono (by omega))).alloc (by omega) _
        | exact ((hB1.trans (hB2.mono (by omega))).alloc (by omega) _).setCell (by simp; omega) _
    · have e1 : plusS sa sb m n = sa := by simp [plusS, hs, hlt]
      have e2 : plusM sa sb m n = m - n := by simp [plusM, hs, hlt]
      rw [e1, e2]
      rw [decide_eq_false hlt] at pL
      have pM := fun W => minus_any W sa sb m n (by omega)
      unfold wv wcs at pM
      have pM := Lib.hid pM
      have pL := Lib.hid pL
      clear e1 e2 hs
      go_enter Try.func135, Try.ntmps135
      go_upto_region 1 with fail
      rw [← hW1]
      clear hW1
      go_wp2_with fail
      refine pL.out.mono ?_
      rintro e W1' ⟨rfl, hB1'⟩
      have ha := ha.below hB1' (by omega)
      have hb := hb.below hB1' (by omega)
      have hc := hc.below hB1' (by omega)
      have hB1 := hB1.trans (hB1'.mono (by omega))
      have hz1l : w.heap.size + 3 ≤ W1'.heap.size := by have := hB1'.size; omega
      clear k0 k1 k2 k3 k4 k5 k6 k7 k8 k9 j0 j1 j2 j3 j4 j5 j6 j7 j8 j9
      obtain ⟨k0, k1, k2, k3, k4, k5, k6, k7, k8, k9⟩ := ha.cells
      obtain ⟨j0, j1, j2, j3, j4, j5, j6, j7, j8, j9⟩ := hb.cells
      go_wp2_with fail
      refine (pM.out _).mono ?_
      rintro e W2 ⟨rfl, hB2⟩
      have hc2 := hc.below hB2 (by omega)
      have hX2 := ha.below hB2 (by omega)
      have hz2 := hB2.size
      have hc3 := WB.alloc hc2 (.cells (wcs sa (dig (m - n))) 198)
      have hX3 := WB.alloc hX2 (.cells (wcs sa (dig (m - n))) 198)
      unfold wcs at hc3 hX3
      have q0 := hX3.cells.1
      obtain ⟨g0, g1, g2, g3, g4, g5, g6, g7, g8, g9⟩ := hc3.frs
      obtain ⟨h0, h1, h2, h3, h4, h5, h6, h7, h8, h9⟩ := hc3.cells
      have ne1 : ¬ w.heap.size + 1 + 1 = W2.heap.size := by omega
      have ne2 : ¬ w.heap.size = W2.heap.size := by omega
      have ne3 : ¬ w.heap.size + 1 = W2.heap.size := by omega
      have ne4 : ¬ W2.heap.size = w.heap.size + 1 + 1 := by omega
      go_wp2_with fail
      refine bodyPost_ret (v := .agg #[.bool sa, .int .u64 (dig (m - n) 0), .int .u64 (dig (m - n) 1), .int .u64 (dig (m - n) 2), .int .u64 (dig (m - n) 3), .int .u64 (dig (m - n) 4), .int .u64 (dig (m - n) 5), .int .u64 (dig (m - n) 6), .int .u64 (dig (m - n) 7), .int .u64 (dig (m - n) 8)]) (by simp [results, Try.results135, go_sem, h0, h1, h2, h3, h4, h5, h6, h7, h8, h9]) rfl ⟨rfl, ?_⟩
      repeat (refine Below.setCell ?_ (by simp; omega) _)
      first
        | exact (hB1.trans (hB2.mono (by omega))).alloc (by omega) _
        | exact ((hB1.trans (hB2.mono (by omega))).alloc (by omega) _).setCell (by simp; omega) _

/-- Held at the limits. -/
def hold (z : Int) : Int := if z < -9223372036854775808 then -9223372036854775808 else if 9223372036854775807 < z then 9223372036854775807 else z
def heldV (s : Bool) (m : Nat) : Int := if s then (if 9223372036854775808 ≤ m then -9223372036854775808 else -(m : Int)) else (if 9223372036854775807 < m then 9223372036854775807 else (m : Int))
theorem heldV_eq (s : Bool) (m : Nat) : heldV s m = hold (sv s m) := by
  unfold heldV hold sv
  cases s
  · simp only [Bool.false_eq_true, if_false]
    split <;> split <;> (try split) <;> omega
  · simp only [if_true]
    split <;> split <;> (try split) <;> omega

theorem lo_dig {m j : Nat} (h : j < 4) : dig (m % 65536 ^ 4) j = dig m j := by
  unfold dig
  match j, h with
  | 0, _ => simp <;> omega
  | 1, _ => simp <;> omega
  | 2, _ => simp <;> omega
  | 3, _ => simp <;> omega

set_option maxRecDepth 100000 in
set_option maxHeartbeats 4000000 in
theorem held_any (w : World) (s : Bool) (m : Nat) (hm : m < 65536 ^ 5) :
    Calls Try.prog 134 #[wv s m] w fun e w' => e = .returned (.int .i64 (heldV s m)) ∧ Below w.heap.size w w' := by
  obtain ⟨W1, hW1, ha, hB⟩ : ∃ W1, W1 = w.alloc (.cells (wcs s (dig m)) 198) ∧ WB W1 w.heap.size s (dig m) ∧ Below w.heap.size w W1 := ⟨_, rfl, WB.new _ _ _, (Below.refl _ w).alloc (Nat.le_refl _) _⟩
  obtain ⟨k0, k1, k2, k3, k4, k5, k6, k7, k8, k9⟩ := ha.cells
  rw [dig_big' (i := 5) hm (by omega)] at k6 k7 k8 k9
  unfold wv wcs
  unfold wcs at hW1
  have hr : m % 65536 ^ 4 < 65536 ^ 4 := Nat.mod_lt _ (by decide)
  obtain ⟨r, hrr⟩ : ∃ r, r = m % 65536 ^ 4 := ⟨_, rfl⟩
  have hdig : ∀ j, j < 4 → dig r j = dig m j := fun j hj => by rw [hrr]; exact lo_dig hj
  have hr' : r < 18446744073709551616 := by rw [hrr]; exact hr
  have HR := Lib.hid hrr
  clear hr hrr
  by_cases hbig : dig m 4 = 0
  · rw [hbig] at k5
    have hrm : r = m := by
      have h1 := div_succ m 4
      rw [hbig, Nat.div_eq_of_lt hm] at h1
      have h2 := Nat.div_add_mod m (65536 ^ 4)
      rw [HR.out]
      omega
    have HRM := Lib.hid hrm
    clear hbig hrm
    go_enter Try.func134, Try.ntmps134
    go_upto_region 1 with fail
    rw [← hW1]
    clear hW1
    go_wp2_with fail
    go_loopw [3, 5] (fun u iv wr => ∃ k : Nat, k ≤ 4 ∧ iv = .int .i64 ((k : Int) - 1) ∧ u = .int .u64 ((r / 65536 ^ k : Nat) : Int) ∧ wr = W1) (fun _ iv _ => (intOf iv + 1).toNat)
    case atStart => exact ⟨4, by omega, rfl, by rw [show r / 65536 ^ 4 = 0 from Nat.div_eq_of_lt hr']; rfl, rfl⟩
    case round =>
      obtain ⟨k, hk, rfl, rfl, rfl⟩ := hrel
      match k, hk with
      | 0, _ =>
        rw [show (((0 : Nat) : Int) - 1) = -1 from rfl, show r / 65536 ^ 0 = r by simp]
        rw [HRM.out]
        by_cases h63 : 9223372036854775807 < m
        · have e1 : heldV s m = if s then -9223372036854775808 else 9223372036854775807 := by unfold heldV; rw [if_pos h63, if_pos (show 9223372036854775808 ≤ m by omega)]
          have E1 := Lib.hid e1
          have h63' : (9223372036854775807 : Int) < (m : Int) := by omega
          have h64 : (9223372036854775808 : Int) ≤ (m : Int) := by omega
          clear e1 h63
          cases s
          · go_wp2_with fail
            go_ret
            exact ⟨ret_int (by rw [E1.out]; rfl), hB⟩
          · go_wp2_with fail
            go_ret
            exact ⟨ret_int (by rw [E1.out]; rfl), hB⟩
        · have e1 : heldV s m = if s then -(m : Int) else (m : Int) := by unfold heldV; rw [if_neg h63, if_neg (show ¬ 9223372036854775808 ≤ m by omega)]
          have E1 := Lib.hid e1
          have h63' : (m : Int) ≤ 9223372036854775807 := by omega
          have h64 : ¬ (9223372036854775808 : Int) ≤ (m : Int) := by omega
          have w1 : IntKind.i64.wrap (m : Int) = (m : Int) := IntWalk.i64_in _ (by omega)
          have w2 : IntKind.i64.wrap (-(m : Int)) = -(m : Int) := IntWalk.i64_in _ (by omega)
          clear e1 h63
          cases s
          · go_wp2_with fail
            go_ret
            exact ⟨ret_int (by rw [E1.out]; rfl), hB⟩
          · go_wp2_with fail
            go_ret
            exact ⟨ret_int (by rw [E1.out]; rfl), hB⟩
      | j + 1, hj4 =>
        have hj : j < 4 := by omega
        rw [show (((j + 1 : Nat) : Int) - 1) = (j : Int) by omega]
        have c1 := ha.at_ (i := j) (by omega)
        rw [← hdig j hj] at c1
        have l1 := dig_lt r j
        have hs1 := div_succ r j
        have hle : r / 65536 ^ j ≤ r := Nat.div_le_self _ _
        have i1 : (0 : Int) ≤ (j : Int) := by omega
        have i2 : (j : Int) < 9 := by omega
        have HS := Lib.hid hs1
        generalize dig r j = x at c1 l1 hs1 HS
        generalize r / 65536 ^ (j + 1) = t at hs1 HS ⊢
        have b1 : x + 65536 * t < 18446744073709551616 := by omega
        clear hs1 hle
        have q1 : IntKind.u64.wrap ((t : Int) * 65536) = (t : Int) * 65536 := IntWalk.u64_in _ (by omega)
        have q2 : IntKind.u64.wrap ((t : Int) * 65536 + (x : Int)) = (t : Int) * 65536 + (x : Int) := IntWalk.u64_in _ (by omega)
        go_wp2_with fail
        go_roundw
        case rel => exact ⟨j, by omega, by simp <;> rfl, by rw [HS.out]; simp [Int.mul_comm, Int.add_comm], trivial⟩
        case measure => simp [intOf] <;> omega
  · have hmm : 18446744073709551616 ≤ m := by
      rcases Nat.lt_or_ge m (65536 ^ 4) with h | h
      · exact absurd (dig_big h) hbig
      · exact h
    have e1 : heldV s m = if s then -9223372036854775808 else 9223372036854775807 := by unfold heldV; rw [if_pos (show 9223372036854775808 ≤ m by omega), if_pos (show 9223372036854775807 < m by omega)]
    have E1 := Lib.hid e1
    have hpos : (0 : Int) < (dig m 4 : Int) := by omega
    clear e1 hmm hbig hm
    go_enter Try.func134, Try.ntmps134
    go_upto_region 1 with fail
    rw [← hW1]
    clear hW1
    go_wp2_with fail
    go_loopw [3, 5] (fun u iv wr => ∃ k : Nat, k ≤ 4 ∧ iv = .int .i64 ((k : Int) - 1) ∧ u = .int .u64 ((r / 65536 ^ k : Nat) : Int) ∧ wr = W1) (fun _ iv _ => (intOf iv + 1).toNat)
    case atStart => exact ⟨4, by omega, rfl, by rw [show r / 65536 ^ 4 = 0 from Nat.div_eq_of_lt hr']; rfl, rfl⟩
    case round =>
      obtain ⟨k, hk, rfl, rfl, rfl⟩ := hrel
      match k, hk with
      | 0, _ =>
        rw [show (((0 : Nat) : Int) - 1) = -1 from rfl, show r / 65536 ^ 0 = r by simp]
        cases s
        · go_wp2_with fail
          go_ret
          exact ⟨ret_int (by rw [E1.out]; rfl), hB⟩
        · go_wp2_with fail
          go_ret
          exact ⟨ret_int (by rw [E1.out]; rfl), hB⟩
      | j + 1, hj4 =>
        have hj : j < 4 := by omega
        rw [show (((j + 1 : Nat) : Int) - 1) = (j : Int) by omega]
        have c1 := ha.at_ (i := j) (by omega)
        rw [← hdig j hj] at c1
        have l1 := dig_lt r j
        have hs1 := div_succ r j
        have hle : r / 65536 ^ j ≤ r := Nat.div_le_self _ _
        have i1 : (0 : Int) ≤ (j : Int) := by omega
        have i2 : (j : Int) < 9 := by omega
        have HS := Lib.hid hs1
        generalize dig r j = x at c1 l1 hs1 HS
        generalize r / 65536 ^ (j + 1) = t at hs1 HS ⊢
        have b1 : x + 65536 * t < 18446744073709551616 := by omega
        clear hs1 hle
        have q1 : IntKind.u64.wrap ((t : Int) * 65536) = (t : Int) * 65536 := IntWalk.u64_in _ (by omega)
        have q2 : IntKind.u64.wrap ((t : Int) * 65536 + (x : Int)) = (t : Int) * 65536 + (x : Int) := IntWalk.u64_in _ (by omega)
        go_wp2_with fail
        go_roundw
        case rel => exact ⟨j, by omega, by simp <;> rfl, by rw [HS.out]; simp [Int.mul_comm, Int.add_comm], trivial⟩
        case measure => simp [intOf] <;> omega

theorem abs_lt {n : Int} (h1 : -9223372036854775808 ≤ n) (h2 : n ≤ 9223372036854775807) : n.natAbs ≤ 9223372036854775808 := by omega
theorem sv_of (n : Int) : sv (decide (n < 0)) n.natAbs = n := by
  unfold sv
  by_cases h : n < 0
  · rw [decide_eq_true h, if_pos rfl]; omega
  · rw [decide_eq_false h, if_neg (by simp)]; omega
theorem sv_plus (sa sb : Bool) (m n : Nat) : sv (plusS sa sb m n) (plusM sa sb m n) = sv sa m + sv sb n := by
  unfold sv plusS plusM
  by_cases h : sa = sb
  · subst h
    rw [if_pos rfl, if_pos rfl]
    cases sa <;> simp <;> omega
  · rw [if_neg h, if_neg h]
    by_cases hlt : m < n
    · rw [if_pos hlt, if_pos hlt]
      cases sa <;> cases sb <;> simp_all <;> omega
    · rw [if_neg hlt, if_neg hlt]
      cases sa <;> cases sb <;> simp_all <;> omega
theorem sv_not (s : Bool) (m : Nat) : sv (!s) m = - sv s m := by cases s <;> simp [sv]
theorem plusM_lt {sa sb : Bool} {m n : Nat} (hm : m ≤ 9223372036854775808) (hn : n ≤ 9223372036854775808) : plusM sa sb m n < 65536 ^ 5 := by
  unfold plusM
  have : (65536 : Nat) ^ 5 = 1208925819614629174706176 := by decide
  rw [this]
  split
  · omega
  · split <;> omega

set_option maxRecDepth 100000 in
set_option maxHeartbeats 1000000 in
theorem add_any (w : World) (a b : Int) (a1 : -9223372036854775808 ≤ a) (a2 : a ≤ 9223372036854775807) (b1 : -9223372036854775808 ≤ b) (b2 : b ≤ 9223372036854775807) :
    Calls Try.prog 109 #[.int .i64 a, .int .i64 b] w fun e w' => e = .returned (.int .i64 (hold (a + b))) ∧ Below w.heap.size w w' := by
  have la := abs_lt a1 a2
  have lb := abs_lt b1 b2
  have h9 : (9223372036854775808 : Nat) < 65536 ^ 9 := by decide
  have p1 := Lib.hid (of_any w a a1 a2)
  have p2 := Lib.hid (fun W => of_any W b b1 b2)
  have p3 := Lib.hid (fun W => Plus_any W (decide (a < 0)) (decide (b < 0)) a.natAbs b.natAbs (by omega) (by omega))
  have p4 := Lib.hid (fun W => held_any W (plusS (decide (a < 0)) (decide (b < 0)) a.natAbs b.natAbs) (plusM (decide (a < 0)) (decide (b < 0)) a.natAbs b.natAbs) (plusM_lt la lb))
  have hfin := Lib.hid (show heldV (plusS (decide (a < 0)) (decide (b < 0)) a.natAbs b.natAbs) (plusM (decide (a < 0)) (decide (b < 0)) a.natAbs b.natAbs) = hold (a + b) by rw [heldV_eq, sv_plus, sv_of, sv_of])
  clear la lb h9
  go_enter Try.func109, Try.ntmps109
  go_wp2_with fail
  refine p1.out.mono ?_
  rintro e w1 ⟨rfl, hb1⟩
  go_wp2_with fail
  refine (p2.out _).mono ?_
  rintro e w2 ⟨rfl, hb2⟩
  go_wp2_with fail
  refine (p3.out _).mono ?_
  rintro e w3 ⟨rfl, hb3⟩
  go_wp2_with fail
  refine (p4.out _).mono ?_
  rintro e w4 ⟨rfl, hb4⟩
  go_wp2_with fail
  go_ret
  have z1 := hb1.size
  have z2 := hb2.size
  have z3 := hb3.size
  exact ⟨ret_int hfin.out, ((hb1.trans (hb2.mono z1)).trans (hb3.mono (by omega))).trans (hb4.mono (by omega))⟩

set_option maxRecDepth 100000 in
set_option maxHeartbeats 1000000 in
theorem sub_any (w : World) (a b : Int) (a1 : -9223372036854775808 ≤ a) (a2 : a ≤ 9223372036854775807) (b1 : -9223372036854775808 ≤ b) (b2 : b ≤ 9223372036854775807) :
    Calls Try.prog 111 #[.int .i64 a, .int .i64 b] w fun e w' => e = .returned (.int .i64 (hold (a - b))) ∧ Below w.heap.size w w' := by
  have la := abs_lt a1 a2
  have lb := abs_lt b1 b2
  have h9 : (9223372036854775808 : Nat) < 65536 ^ 9 := by decide
  have p1 := Lib.hid (of_any w a a1 a2)
  have p2 := Lib.hid (fun W => of_any W b b1 b2)
  have p5 := Lib.hid (fun W => turn_any W (decide (b < 0)) b.natAbs)
  have p3 := Lib.hid (fun W => Plus_any W (decide (a < 0)) (!decide (b < 0)) a.natAbs b.natAbs (by omega) (by omega))
  have p4 := Lib.hid (fun W => held_any W (plusS (decide (a < 0)) (!decide (b < 0)) a.natAbs b.natAbs) (plusM (decide (a < 0)) (!decide (b < 0)) a.natAbs b.natAbs) (plusM_lt la lb))
  have hfin := Lib.hid (show heldV (plusS (decide (a < 0)) (!decide (b < 0)) a.natAbs b.natAbs) (plusM (decide (a < 0)) (!decide (b < 0)) a.natAbs b.natAbs) = hold (a - b) by rw [heldV_eq, sv_plus, sv_not, sv_of, sv_of, Int.sub_eq_add_neg])
  clear la lb h9
  generalize hsg : (!decide (b < 0)) = nb at p5 p3 p4 hfin
  clear hsg
  go_enter Try.func111, Try.ntmps111
  go_wp2_with fail
  refine p1.out.mono ?_
  rintro e w1 ⟨rfl, hb1⟩
  go_wp2_with fail
  refine (p2.out _).mono ?_
  rintro e w2 ⟨rfl, hb2⟩
  go_wp2_with fail
  refine (p5.out _).mono ?_
  rintro e w5 ⟨rfl, hb5⟩
  go_wp2_with fail
  refine (p3.out _).mono ?_
  rintro e w3 ⟨rfl, hb3⟩
  go_wp2_with fail
  refine (p4.out _).mono ?_
  rintro e w4 ⟨rfl, hb4⟩
  go_wp2_with fail
  go_ret
  have z1 := hb1.size
  have z2 := hb2.size
  have z3 := hb3.size
  have z5 := hb5.size
  exact ⟨ret_int hfin.out, (((hb1.trans (hb2.mono z1)).trans (hb5.mono (by omega))).trans (hb3.mono (by omega))).trans (hb4.mono (by omega))⟩
end Go.Proofs.Ytblnfkhaicjeaaa.Num
