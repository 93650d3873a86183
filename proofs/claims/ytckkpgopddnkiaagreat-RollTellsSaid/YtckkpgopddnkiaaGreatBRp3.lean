/-
  Texts joined: Num, Num2, Num3. No condition.
-/
import Derived.Test.YtckkpgopddnkiaaGreatBRp2
import Derived.Test.YtckkpgopddnkiaaGreatProg
namespace Go.Proofs.YtckkpgopddnkiaaGreat.Num
open Go.RowKit
set_option linter.all false

/-- The cells of a wide number whose digits are f. -/
def wcs (s : Bool) (f : Nat → Nat) : Array Value := #[.bool s, .int .u64 (f 0), .int .u64 (f 1), .int .u64 (f 2), .int .u64 (f 3), .int .u64 (f 4), .int .u64 (f 5), .int .u64 (f 6), .int .u64 (f 7), .int .u64 (f 8)]
def wv (s : Bool) (n : Nat) : Value := .agg (wcs s (dig n))
def WB (w : World) (b : Nat) (s : Bool) (f : Nat → Nat) : Prop := Blk w b 150 (wcs s f)
def upd (f : Nat → Nat) (k v : Nat) : Nat → Nat := fun j => if j = k then v else f j
section
variable {w w' : World} {b : Nat} {s : Bool} {f : Nat → Nat}
theorem wcs_get (s : Bool) (f : Nat → Nat) {i : Nat} (h : i < 9) : (wcs s f)[1 + i]? = some (.int .u64 (f i)) := by
  match i, h with
  | 0, _ | 1, _ | 2, _ | 3, _ | 4, _ | 5, _ | 6, _ | 7, _ | 8, _ => rfl
theorem wcs_set (s : Bool) (f : Nat → Nat) {i : Nat} (h : i < 9) (v : Nat) : (wcs s f).setIfInBounds (1 + i) (.int .u64 v) = wcs s (upd f i v) := by
  match i, h with
  | 0, _ | 1, _ | 2, _ | 3, _ | 4, _ | 5, _ | 6, _ | 7, _ | 8, _ => rfl
theorem wcs_congr (s : Bool) {f g : Nat → Nat} (h : ∀ j, j < 9 → f j = g j) : wcs s f = wcs s g := by
  unfold wcs
  rw [h 0 (by omega), h 1 (by omega), h 2 (by omega), h 3 (by omega), h 4 (by omega), h 5 (by omega), h 6 (by omega), h 7 (by omega), h 8 (by omega)]
theorem WB.at_ (h : WB w b s f) {i : Nat} (hi : i < 9) : w.cell? ⟨b, 1 + i, none⟩ = some (.int .u64 (f i)) := (Blk.cell h (1 + i)).trans (wcs_get s f hi)
theorem WB.fr (h : WB w b s f) (i : Nat) : w.frozen? ⟨b, i, none⟩ = false := Blk.frozen h i
theorem WB.set_ (h : WB w b s f) {i : Nat} (hi : i < 9) (v : Nat) : WB (w.setCell ⟨b, 1 + i, none⟩ (.int .u64 v)) b s (upd f i v) := by
  have := Blk.set_ h (1 + i) (.int .u64 v)
  rw [wcs_set s f hi v] at this
  exact this
theorem WB.congr {g : Nat → Nat} (h : WB w b s f) (hg : ∀ j, j < 9 → f j = g j) : WB w b s g := by unfold WB at *; rw [← wcs_congr s hg]; exact h
theorem WB.far (h : WB w b s f) {p : Addr} (hp : b ≠ p.block) (u : Value) : WB (w.setCell p u) b s f := Blk.far h hp u
theorem WB.drewN (h : WB w b s f) (n : Nat) : WB (w.drewN n) b s f := h
theorem WB.drew (h : WB w b s f) : WB w.drew b s f := h
theorem WB.alloc (h : WB w b s f) (o : Obj) : WB (w.alloc o) b s f := Blk.alloc h o
theorem WB.below {B : Nat} (h : WB w b s f) (hb : Below B w w') (hB : b < B) : WB w' b s f := Blk.below h hb hB
theorem WB.cells (h : WB w b s f) : w.cell? ⟨b, 0, none⟩ = some (.bool s) ∧ w.cell? ⟨b, 1, none⟩ = some (.int .u64 (f 0)) ∧ w.cell? ⟨b, 2, none⟩ = some (.int .u64 (f 1)) ∧ w.cell? ⟨b, 3, none⟩ = some (.int .u64 (f 2)) ∧ w.cell? ⟨b, 4, none⟩ = some (.int .u64 (f 3)) ∧
    w.cell? ⟨b, 5, none⟩ = some (.int .u64 (f 4)) ∧ w.cell? ⟨b, 6, none⟩ = some (.int .u64 (f 5)) ∧ w.cell? ⟨b, 7, none⟩ = some (.int .u64 (f 6)) ∧ w.cell? ⟨b, 8, none⟩ = some (.int .u64 (f 7)) ∧ w.cell? ⟨b, 9, none⟩ = some (.int .u64 (f 8)) :=
  ⟨Blk.cell h 0, Blk.cell h 1, Blk.cell h 2, Blk.cell h 3, Blk.cell h 4, Blk.cell h 5, Blk.cell h 6, Blk.cell h 7, Blk.cell h 8, Blk.cell h 9⟩
theorem WB.frs (h : WB w b s f) : w.frozen? ⟨b, 0, none⟩ = false ∧ w.frozen? ⟨b, 1, none⟩ = false ∧ w.frozen? ⟨b, 2, none⟩ = false ∧ w.frozen? ⟨b, 3, none⟩ = false ∧ w.frozen? ⟨b, 4, none⟩ = false ∧
    w.frozen? ⟨b, 5, none⟩ = false ∧ w.frozen? ⟨b, 6, none⟩ = false ∧ w.frozen? ⟨b, 7, none⟩ = false ∧ w.frozen? ⟨b, 8, none⟩ = false ∧ w.frozen? ⟨b, 9, none⟩ = false :=
  ⟨Blk.frozen h 0, Blk.frozen h 1, Blk.frozen h 2, Blk.frozen h 3, Blk.frozen h 4, Blk.frozen h 5, Blk.frozen h 6, Blk.frozen h 7, Blk.frozen h 8, Blk.frozen h 9⟩
end
theorem WB.new (w : World) (s : Bool) (f : Nat → Nat) : WB (w.alloc (.cells (wcs s f) 150)) w.heap.size s f := Blk.new _ _ _

/-- Digits below k are the sum's. -/
def sumF (m n k : Nat) : Nat → Nat := fun j => if j < k then dig (m + n) j else dig m j
theorem sumF_at (m n k : Nat) : sumF m n k k = dig m k := by simp [sumF]
theorem sumF_succ (m n k j : Nat) : upd (sumF m n k) k ((dig m k + dig n k + car m n k) % 65536) j = sumF m n (k + 1) j := by
  unfold upd sumF
  rw [add_dig]
  by_cases h : j = k
  · subst h; simp
  · rw [if_neg h]; by_cases h2 : j < k
    · rw [if_pos h2, if_pos (by omega)]
    · rw [if_neg h2, if_neg (by omega)]

/-- A new one's cells. -/
def wz : Array Value := #[.bool false, .int .u64 0, .int .u64 0, .int .u64 0, .int .u64 0, .int .u64 0, .int .u64 0, .int .u64 0, .int .u64 0, .int .u64 0]
theorem WB.zero (w : World) : WB (w.alloc (.cells wz 150)) w.heap.size false (fun _ => 0) := Blk.new _ _ _
/-- The boxes of two parameters, and the result's. -/
theorem boxes2 (w : World) (sa sb : Bool) (f g : Nat → Nat) : ∃ W1, W1 = ((w.alloc (.cells (wcs sa f) 150)).alloc (.cells (wcs sb g) 150)).alloc (.cells wz 150) ∧
    WB W1 w.heap.size sa f ∧ WB W1 (w.heap.size + 1) sb g ∧ WB W1 (w.heap.size + 1 + 1) false (fun _ => 0) ∧ Below w.heap.size w W1 ∧ W1.heap.size = w.heap.size + 3 := by
  refine ⟨_, rfl, ((WB.new _ _ _).alloc _).alloc _, ?_, ?_, (((Below.refl _ w).alloc (Nat.le_refl _) _).alloc (by simp) _).alloc (by simp; omega) _, by simp⟩
  · have := WB.new (w.alloc (.cells (wcs sa f) 150)) sb g
    simpa using this.alloc _
  · have := WB.zero ((w.alloc (.cells (wcs sa f) 150)).alloc (.cells (wcs sb g) 150))
    simpa using this

/-- What a loop over digits carries: the first box has turned, the second one and the result's haven't. -/
def DigInv (w : World) (sa sb : Bool) (f g : Nat → Nat) (wr : World) : Prop :=
  WB wr w.heap.size sa f ∧ WB wr (w.heap.size + 1) sb g ∧ WB wr (w.heap.size + 1 + 1) false (fun _ => 0) ∧ Below w.heap.size w wr

set_option maxRecDepth 100000 in
set_option maxHeartbeats 2000000 in
theorem plus_any (w : World) (sa sb : Bool) (m n : Nat) :
    Calls Tryz.prog 110 #[wv sa m, wv sb n] w fun e w' => e = .returned (wv sa (m + n)) ∧ Below w.heap.size w w' := by
  obtain ⟨W1, hW1, ha, hb, hc, hB1, hz1⟩ := boxes2 w sa sb (dig m) (dig n)
  unfold wv
  unfold wcs wz at hW1
  conv => arg 3; unfold wcs
  go_enter Tryz.func110, Tryz.ntmps110
  go_upto_region 1 with fail
  rw [← hW1]
  clear hW1
  go_wp2_with fail
  go_loopw [5, 6] (fun c i wr => ∃ k : Nat, k ≤ 9 ∧ i = .int .i64 k ∧ c = .int .u64 (car m n k) ∧ DigInv w sa sb (sumF m n k) (dig n) wr) (fun _ i _ => 9 - (intOf i).toNat)
  case atStart => exact ⟨0, by omega, rfl, by rw [car_zero]; rfl, ha.congr (fun j _ => by simp [sumF]), hb, hc, hB1⟩
  case round =>
    clear ha hb hc hB1
    obtain ⟨k, hk, rfl, rfl, ha, hb, hc, hB⟩ := hrel
    by_cases hlt : k < 9
    · have c1 := ha.at_ hlt
      rw [sumF_at] at c1
      have c2 := hb.at_ hlt
      have f1 := ha.fr (1 + k)
      have l1 := dig_lt m k
      have l2 := dig_lt n k
      have l3 := car_le m n k
      have a1 := Lib.hid (add_car m n k)
      have a2 := Lib.hid (sumF_succ m n k)
      have i1 : (0 : Int) ≤ (k : Int) := by omega
      have i2 : (k : Int) < 9 := by omega
      generalize hx : dig m k = x at *
      generalize hy : dig n k = y at *
      generalize hcc : car m n k = c at *
      clear hx hy hcc
      have q1 : IntKind.u64.wrap ((x : Int) + (y : Int)) = (x : Int) + (y : Int) := IntWalk.u64_in _ (by omega)
      have q2 : IntKind.u64.wrap ((x : Int) + (y : Int) + (c : Int)) = (x : Int) + (y : Int) + (c : Int) := IntWalk.u64_in _ (by omega)
      go_wp2_with fail
      go_quiet (fail)
      clear q1 q2
      go_wp2_with fail
      go_roundw
      case rel =>
        refine ⟨k + 1, by omega, by go_num, by rw [← a1.out]; go_num, ?_, ?_, ?_, ?_⟩
        · have := ((ha.drewN nq).set_ hlt ((x + y + c) % 65536)).congr (fun j _ => a2.out j)
          simpa using this
        · exact (hb.drewN nq).far (by simp) _
        · exact (hc.drewN nq).far (by simp; omega) _
        · exact (below_drewN hB nq).setCell (p := ⟨w.heap.size, 1 + k, none⟩) (Nat.le_refl _) _
      case measure => simp [intOf]; omega
    · obtain rfl : k = 9 := by omega
      have ha' := ha.congr (g := dig (m + n)) (fun j hj => by simp [sumF, hj])
      obtain ⟨k0, k1, k2, k3, k4, k5, k6, k7, k8, k9⟩ := ha'.cells
      obtain ⟨g0, g1, g2, g3, g4, g5, g6, g7, g8, g9⟩ := hc.frs
      obtain ⟨h0, h1, h2, h3, h4, h5, h6, h7, h8, h9⟩ := hc.cells
      go_wp2_with fail
      refine bodyPost_ret (v := .agg #[.bool sa, .int .u64 (dig (m + n) 0), .int .u64 (dig (m + n) 1), .int .u64 (dig (m + n) 2), .int .u64 (dig (m + n) 3), .int .u64 (dig (m + n) 4), .int .u64 (dig (m + n) 5), .int .u64 (dig (m + n) 6), .int .u64 (dig (m + n) 7), .int .u64 (dig (m + n) 8)]) (by simp [results, Tryz.results110, go_sem, h0, h1, h2, h3, h4, h5, h6, h7, h8, h9]) rfl ⟨rfl, ?_⟩
      repeat (refine Below.setCell ?_ (by simp; omega) _)
      exact hB

def subF (m n k : Nat) : Nat → Nat := fun j => if j < k then dig (m - n) j else dig m j
theorem subF_at (m n k : Nat) : subF m n k k = dig m k := by simp [subF]
theorem subF_succ (m n k j : Nat) (h : n ≤ m) : upd (subF m n k) k ((dig m k + 65536 - dig n k - bor m n k) % 65536) j = subF m n (k + 1) j := by
  unfold upd subF
  rw [sub_dig m n k h]
  by_cases h : j = k
  · subst h; simp
  · rw [if_neg h]; by_cases h2 : j < k
    · rw [if_pos h2, if_pos (by omega)]
    · rw [if_neg h2, if_neg (by omega)]

set_option maxRecDepth 100000 in
set_option maxHeartbeats 2000000 in
theorem minus_any (w : World) (sa sb : Bool) (m n : Nat) (hle : n ≤ m) :
    Calls Tryz.prog 112 #[wv sa m, wv sb n] w fun e w' => e = .returned (wv sa (m - n)) ∧ Below w.heap.size w w' := by
  obtain ⟨W1, hW1, ha, hb, hc, hB1, hz1⟩ := boxes2 w sa sb (dig m) (dig n)
  unfold wv
  unfold wcs wz at hW1
  conv => arg 3; unfold wcs
  go_enter Tryz.func112, Tryz.ntmps112
  go_upto_region 1 with fail
  rw [← hW1]
  clear hW1
  go_wp2_with fail
  go_loopw [5, 6] (fun c i wr => ∃ k : Nat, k ≤ 9 ∧ i = .int .i64 k ∧ c = .int .u64 (bor m n k) ∧ DigInv w sa sb (subF m n k) (dig n) wr) (fun _ i _ => 9 - (intOf i).toNat)
  case atStart => exact ⟨0, by omega, rfl, by rw [bor_zero]; rfl, ha.congr (fun j _ => by simp [subF]), hb, hc, hB1⟩
  case round =>
    clear ha hb hc hB1
    obtain ⟨k, hk, rfl, rfl, ha, hb, hc, hB⟩ := hrel
    by_cases hlt : k < 9
    · have c1 := ha.at_ hlt
      rw [subF_at] at c1
      have c2 := hb.at_ hlt
      have f1 := ha.fr (1 + k)
      have l1 := dig_lt m k
      have l2 := dig_lt n k
      have l3 := bor_le m n k
      have a1 := Lib.hid (sub_bor m n k hle)
      have a2 := Lib.hid (fun j => subF_succ m n k j hle)
      have i1 : (0 : Int) ≤ (k : Int) := by omega
      have i2 : (k : Int) < 9 := by omega
      generalize hx : dig m k = x at *
      generalize hy : dig n k = y at *
      generalize hcc : bor m n k = c at *
      clear hx hy hcc hle
      obtain ⟨t, ht⟩ : ∃ t, x + 65536 - y - c = t := ⟨_, rfl⟩
      rw [ht] at a1 a2
      have q0 : IntKind.u64.wrap ((x : Int) + 65536) = (x : Int) + 65536 := IntWalk.u64_in _ (by omega)
      have q1 : IntKind.u64.wrap ((x : Int) + 65536 - (y : Int)) = (x : Int) + 65536 - (y : Int) := IntWalk.u64_in _ (by omega)
      have q2 : IntKind.u64.wrap ((x : Int) + 65536 - (y : Int) - (c : Int)) = (t : Int) := by rw [IntWalk.u64_in _ (by omega)]; omega
      have t2 : t < 131072 := by omega
      have t3 : (t : Int) / 65536 ≤ 1 := by omega
      have t4 : 0 ≤ (t : Int) / 65536 := by omega
      clear ht
      go_wp2_with fail
      go_quiet (fail)
      clear q0 q1 q2
      go_wp2_with fail
      go_roundw
      case rel =>
        refine ⟨k + 1, by omega, by go_num, by rw [← a1.out]; go_num, ?_, ?_, ?_, ?_⟩
        · have := ((ha.drewN nq).set_ hlt (t % 65536)).congr (fun j _ => a2.out j)
          simpa using this
        · exact (hb.drewN nq).far (by simp) _
        · exact (hc.drewN nq).far (by simp; omega) _
        · exact (below_drewN hB nq).setCell (p := ⟨w.heap.size, 1 + k, none⟩) (Nat.le_refl _) _
      case measure => simp [intOf]; omega
    · obtain rfl : k = 9 := by omega
      have ha' := ha.congr (g := dig (m - n)) (fun j hj => by simp [subF, hj])
      obtain ⟨k0, k1, k2, k3, k4, k5, k6, k7, k8, k9⟩ := ha'.cells
      obtain ⟨g0, g1, g2, g3, g4, g5, g6, g7, g8, g9⟩ := hc.frs
      obtain ⟨h0, h1, h2, h3, h4, h5, h6, h7, h8, h9⟩ := hc.cells
      go_wp2_with fail
      refine bodyPost_ret (v := .agg #[.bool sa, .int .u64 (dig (m - n) 0), .int .u64 (dig (m - n) 1), .int .u64 (dig (m - n) 2), .int .u64 (dig (m - n) 3), .int .u64 (dig (m - n) 4), .int .u64 (dig (m - n) 5), .int .u64 (dig (m - n) 6), .int .u64 (dig (m - n) 7), .int .u64 (dig (m - n) 8)]) (by simp [results, Tryz.results112, go_sem, h0, h1, h2, h3, h4, h5, h6, h7, h8, h9]) rfl ⟨rfl, ?_⟩
      repeat (refine Below.setCell ?_ (by simp; omega) _)
      exact hB

set_option maxRecDepth 100000 in
set_option maxHeartbeats 2000000 in
theorem less_any (w : World) (sa sb : Bool) (m n : Nat) (hm : m < 65536 ^ 9) (hn : n < 65536 ^ 9) :
    Calls Tryz.prog 111 #[wv sa m, wv sb n] w fun e w' => e = .returned (.bool (decide (m < n))) ∧ Below w.heap.size w w' := by
  obtain ⟨W1, hW1, ha, hb, hB1⟩ : ∃ W1, W1 = (w.alloc (.cells (wcs sa (dig m)) 150)).alloc (.cells (wcs sb (dig n)) 150) ∧ WB W1 w.heap.size sa (dig m) ∧ WB W1 (w.heap.size + 1) sb (dig n) ∧ Below w.heap.size w W1 := by
    refine ⟨_, rfl, (WB.new _ _ _).alloc _, ?_, ((Below.refl _ w).alloc (Nat.le_refl _) _).alloc (by simp) _⟩
    have := WB.new (w.alloc (.cells (wcs sa (dig m)) 150)) sb (dig n)
    simpa using this
  have s0 : m / 65536 ^ 9 = n / 65536 ^ 9 := by rw [Nat.div_eq_of_lt hm, Nat.div_eq_of_lt hn]
  have S0 := Lib.hid s0
  clear s0 hm hn
  unfold wv
  unfold wcs at hW1
  conv => arg 3; unfold wcs
  go_enter Tryz.func111, Tryz.ntmps111
  go_upto_region 1 with fail
  rw [← hW1]
  clear hW1
  go_wp2_with fail
  go_loopw [5] (fun i wr => ∃ k : Nat, k ≤ 9 ∧ i = .int .i64 ((k : Int) - 1) ∧ Hid (m / 65536 ^ k = n / 65536 ^ k) ∧ WB wr w.heap.size sa (dig m) ∧ WB wr (w.heap.size + 1) sb (dig n) ∧ Below w.heap.size w wr) (fun i _ => (intOf i + 1).toNat)
  case atStart => exact ⟨9, by omega, rfl, S0, ha, hb, hB1⟩
  case round =>
    clear ha hb hB1 S0
    obtain ⟨k, hk, rfl, hd, ha, hb, hB⟩ := hrel
    match k, hk, hd with
    | 0, _, hd =>
      have e0 : decide (m < n) = false := by have := hd.out; simp at this; simp [this]
      have E0 := Lib.hid e0
      clear e0 hd
      rw [show (((0 : Nat) : Int) - 1) = -1 from rfl]
      go_wp2_with fail
      go_ret
      exact ⟨ret_bool E0.out.symm, hB⟩
    | j + 1, hj9, hd =>
      have hj : j < 9 := by omega
      rw [show (((j + 1 : Nat) : Int) - 1) = (j : Int) by omega]
      have c1 := ha.at_ hj
      have c2 := hb.at_ hj
      have l1 := dig_lt m j
      have l2 := dig_lt n j
      have i1 : (0 : Int) ≤ (j : Int) := by omega
      have i2 : (j : Int) < 9 := by omega
      have A1 := Lib.hid (fun h => eq_of_dig (i := j) hd.out h)
      have A2 := Lib.hid (fun h => lt_of_dig (i := j) hd.out h)
      have A3 := Lib.hid (fun h => lt_of_dig (i := j) (m := n) (n := m) hd.out.symm h)
      clear hd
      by_cases he : dig m j = dig n j
      · have A1' := Lib.hid (A1.out he)
        clear A1 A2 A3
        rw [he] at c1
        clear he l1
        generalize dig n j = x at c1 c2 l2
        go_wp2_with fail
        go_quiet (fail)
        go_wp2_with fail
        go_roundw
        case rel => exact ⟨j, by omega, by simp <;> rfl, A1', ha.drewN nq, hb.drewN nq, below_drewN hB nq⟩
        case measure => simp [intOf] <;> omega
      · have e0 : decide (dig m j < dig n j) = decide (m < n) := by
          by_cases h1 : dig m j < dig n j
          · rw [decide_eq_true h1, decide_eq_true (A2.out h1)]
          · have := A3.out (by omega); rw [decide_eq_false h1, decide_eq_false (by omega)]
        have E0 := Lib.hid e0
        clear e0
        clear A1 A2 A3
        generalize hx : dig m j = x at *
        generalize hy : dig n j = y at *
        clear hx hy
        have he2 : ((x : Int) == (y : Int)) = false := by simpa using (fun h => he (by omega) : ¬ (x : Int) = (y : Int))
        have he3 : ((x : Int) != (y : Int)) = true := by simp [bne, he2]
        clear he
        go_wp2_with fail
        go_quiet (fail)
        go_wp2_with fail
        go_quiet (fail)
        go_wp2_with fail
        go_ret
        refine ⟨ret_bool (by rw [← E0.out] <;> simp), ?_⟩
        first | exact below_drewN hB _ | exact below_drewN (below_drewN hB _) _

/-- The number that u is, behind its sign. -/
def ofF (m k : Nat) : Nat → Nat := fun j => if j < k then dig m j else 0
theorem ofF_succ (m k j : Nat) : upd (ofF m k) k (dig m k) j = ofF m (k + 1) j := by
  unfold upd ofF
  by_cases h : j = k
  · subst h; simp
  · rw [if_neg h]; by_cases h2 : j < k
    · rw [if_pos h2, if_pos (by omega)]
    · rw [if_neg h2, if_neg (by omega)]

theorem neg_neg64 (m : Nat) (h1 : 1 ≤ m) (h2 : m ≤ 9223372036854775808) : IntKind.u64.wrap (-IntKind.u64.wrap (-(m : Int))) = (m : Int) := by
  rw [IntKind.wrap_u64, IntKind.wrap_u64]; omega

set_option maxRecDepth 100000 in
set_option maxHeartbeats 2000000 in
theorem of_any (w : World) (n : Int) (h1 : -9223372036854775808 ≤ n) (h2 : n ≤ 9223372036854775807) :
    Calls Tryz.prog 103 #[.int .i64 n] w fun e w' => e = .returned (wv (decide (n < 0)) n.natAbs) ∧ Below w.heap.size w w' := by
  obtain ⟨W1, hW1, hr, hb, hB1⟩ : ∃ W1, W1 = (w.alloc (.cells wz 150)).alloc (.cells wz 150) ∧ WB W1 w.heap.size false (fun _ => 0) ∧ WB W1 (w.heap.size + 1) false (fun _ => 0) ∧ Below w.heap.size w W1 := by
    refine ⟨_, rfl, (WB.zero _).alloc _, ?_, ((Below.refl _ w).alloc (Nat.le_refl _) _).alloc (by simp) _⟩
    have := WB.zero (w.alloc (.cells wz 150))
    simpa using this
  obtain ⟨m, hm⟩ : ∃ m, m = n.natAbs := ⟨_, rfl⟩
  obtain ⟨sg, hsg⟩ : ∃ sg, sg = decide (n < 0) := ⟨_, rfl⟩
  rw [← hm, ← hsg]
  unfold wv wcs
  unfold wz at hW1
  have mle : m ≤ 9223372036854775808 := by omega
  by_cases hneg : n < 0
  · have hsg' : sg = true := by rw [hsg]; simpa using hneg
    subst hsg'
    obtain rfl : n = -(m : Int) := by omega
    have hm1 : 1 ≤ m := by omega
    clear hm hsg h1 h2
    have hw := neg_neg64 m hm1 mle
    have fb := hb.fr 0
    have cb := hb.cells.1
    go_enter Tryz.func103, Tryz.ntmps103
    go_upto_region 2 with fail
    rw [← hW1]
    clear hW1
    go_upto_region 6 with fail
    clear hw
    go_wp2_with fail
    go_loopw [4, 5] (fun u i wr => ∃ k : Nat, k ≤ 4 ∧ i = .int .i64 k ∧ u = .int .u64 ((m / 65536 ^ k : Nat) : Int) ∧ WB wr w.heap.size false (fun _ => 0) ∧ WB wr (w.heap.size + 1) true (ofF m k) ∧ Below w.heap.size w wr) (fun _ i _ => 4 - (intOf i).toNat)
    case atStart => exact ⟨0, by omega, rfl, by simp, by exact hr.far (by simp) _, by exact (Blk.set_ hb 0 (.bool true)), by exact hB1.setCell (p := ⟨w.heap.size + 1, 0, none⟩) (by simp) _⟩
    case round =>
      clear hr hb hB1
      obtain ⟨k, hk, rfl, rfl, hr, hb, hB⟩ := hrel
      by_cases hlt : k < 4
      · have f1 := hb.fr (1 + k)
        have c1 := hb.at_ (i := k) (by omega)
        have i1 : (0 : Int) ≤ (k : Int) := by omega
        have i2 : (k : Int) < 9 := by omega
        have a1 := Lib.hid (ofF_succ m k)
        have a2 := Lib.hid (show m / 65536 ^ k / 65536 = m / 65536 ^ (k + 1) by rw [Nat.div_div_eq_div_mul, Nat.pow_succ])
        have a3 := Lib.hid (show m / 65536 ^ k % 65536 = dig m k from rfl)
        have l1 : m / 65536 ^ k ≤ m := Nat.div_le_self _ _
        generalize m / 65536 ^ k = t at *
        go_wp2_with fail
        go_roundw
        case rel =>
          refine ⟨k + 1, by omega, by go_num, by rw [← a2.out]; go_num, hr.far (by simp) _, ?_, hB.setCell (p := ⟨w.heap.size + 1, 1 + k, none⟩) (by simp) _⟩
          have := (hb.set_ (i := k) (by omega) (dig m k)).congr (fun j _ => a1.out j)
          rw [← a3.out] at this
          simpa using this
        case measure => simp [intOf]; omega
      · obtain rfl : k = 4 := by omega
        have hb' := hb.congr (g := dig m) (fun j hj => by
          unfold ofF
          by_cases h : j < 4
          · rw [if_pos h]
          · rw [if_neg h, dig_big' (i := 4) (by omega) (by omega)])
        obtain ⟨k0, k1, k2, k3, k4, k5, k6, k7, k8, k9⟩ := hb'.cells
        obtain ⟨g0, g1, g2, g3, g4, g5, g6, g7, g8, g9⟩ := hr.frs
        obtain ⟨h0, h1, h2, h3, h4, h5, h6, h7, h8, h9⟩ := hr.cells
        go_wp2_with fail
        refine bodyPost_ret (v := .agg #[.bool true, .int .u64 (dig (m) 0), .int .u64 (dig (m) 1), .int .u64 (dig (m) 2), .int .u64 (dig (m) 3), .int .u64 (dig (m) 4), .int .u64 (dig (m) 5), .int .u64 (dig (m) 6), .int .u64 (dig (m) 7), .int .u64 (dig (m) 8)]) (by simp [results, Tryz.results103, go_sem, h0, h1, h2, h3, h4, h5, h6, h7, h8, h9]) rfl ⟨rfl, ?_⟩
        repeat (refine Below.setCell ?_ (by simp) _)
        exact hB
  · have hsg' : sg = false := by rw [hsg]; simpa using hneg
    subst hsg'
    obtain rfl : n = (m : Int) := by omega
    clear hm hsg h1
    have hw : IntKind.u64.wrap (m : Int) = (m : Int) := IntWalk.u64_in _ (by omega)
    go_enter Tryz.func103, Tryz.ntmps103
    go_upto_region 2 with fail
    rw [← hW1]
    clear hW1
    go_upto_region 6 with fail
    clear hw
    go_wp2_with fail
    go_loopw [4, 5] (fun u i wr => ∃ k : Nat, k ≤ 4 ∧ i = .int .i64 k ∧ u = .int .u64 ((m / 65536 ^ k : Nat) : Int) ∧ WB wr w.heap.size false (fun _ => 0) ∧ WB wr (w.heap.size + 1) false (ofF m k) ∧ Below w.heap.size w wr) (fun _ i _ => 4 - (intOf i).toNat)
    case atStart => exact ⟨0, by omega, rfl, by simp, hr, hb, hB1⟩
    case round =>
      clear hr hb hB1
      obtain ⟨k, hk, rfl, rfl, hr, hb, hB⟩ := hrel
      by_cases hlt : k < 4
      · have f1 := hb.fr (1 + k)
        have c1 := hb.at_ (i := k) (by omega)
        have i1 : (0 : Int) ≤ (k : Int) := by omega
        have i2 : (k : Int) < 9 := by omega
        have a1 := Lib.hid (ofF_succ m k)
        have a2 := Lib.hid (show m / 65536 ^ k / 65536 = m / 65536 ^ (k + 1) by rw [Nat.div_div_eq_div_mul, Nat.pow_succ])
        have a3 := Lib.hid (show m / 65536 ^ k % 65536 = dig m k from rfl)
        have l1 : m / 65536 ^ k ≤ m := Nat.div_le_self _ _
        generalize m / 65536 ^ k = t at *
        go_wp2_with fail
        go_roundw
        case rel =>
          refine ⟨k + 1, by omega, by go_num, by rw [← a2.out]; go_num, hr.far (by simp) _, ?_, hB.setCell (p := ⟨w.heap.size + 1, 1 + k, none⟩) (by simp) _⟩
          have := (hb.set_ (i := k) (by omega) (dig m k)).congr (fun j _ => a1.out j)
          rw [← a3.out] at this
          simpa using this
        case measure => simp [intOf]; omega
      · obtain rfl : k = 4 := by omega
        have hb' := hb.congr (g := dig m) (fun j hj => by
          unfold ofF
          by_cases h : j < 4
          · rw [if_pos h]
          · rw [if_neg h, dig_big' (i := 4) (by omega) (by omega)])
        obtain ⟨k0, k1, k2, k3, k4, k5, k6, k7, k8, k9⟩ := hb'.cells
        obtain ⟨g0, g1, g2, g3, g4, g5, g6, g7, g8, g9⟩ := hr.frs
        obtain ⟨h0, h1, h2, h3, h4, h5, h6, h7, h8, h9⟩ := hr.cells
        go_wp2_with fail
        refine bodyPost_ret (v := .agg #[.bool false, .int .u64 (dig (m) 0), .int .u64 (dig (m) 1), .int .u64 (dig (m) 2), .int .u64 (dig (m) 3), .int .u64 (dig (m) 4), .int .u64 (dig (m) 5), .int .u64 (dig (m) 6), .int .u64 (dig (m) 7), .int .u64 (dig (m) 8)]) (by simp [results, Tryz.results103, go_sem, h0, h1, h2, h3, h4, h5, h6, h7, h8, h9]) rfl ⟨rfl, ?_⟩
        repeat (refine Below.setCell ?_ (by simp) _)
        exact hB

end Go.Proofs.YtckkpgopddnkiaaGreat.Num
namespace Go.Proofs.YtckkpgopddnkiaaGreat.Num
open Go.RowKit
set_option linter.all false

theorem box1 (w : World) (s : Bool) (f : Nat → Nat) : ∃ W1, W1 = (w.alloc (.cells (wcs s f) 150)).alloc (.cells wz 150) ∧ WB W1 w.heap.size s f ∧ WB W1 (w.heap.size + 1) false (fun _ => 0) ∧ Below w.heap.size w W1 := by
  refine ⟨_, rfl, (WB.new _ _ _).alloc _, ?_, ((Below.refl _ w).alloc (Nat.le_refl _) _).alloc (by simp) _⟩
  have := WB.zero (w.alloc (.cells (wcs s f) 150))
  simpa using this

set_option maxRecDepth 100000 in
set_option maxHeartbeats 2000000 in
theorem turn_any (w : World) (s : Bool) (m : Nat) :
    Calls Tryz.prog 106 #[wv s m] w fun e w' => e = .returned (wv (!s) m) ∧ Below w.heap.size w w' := by
  obtain ⟨W1, hW1, ha, hc, hB⟩ := box1 w s (dig m)
  unfold wv wcs
  unfold wcs wz at hW1
  obtain ⟨k0, k1, k2, k3, k4, k5, k6, k7, k8, k9⟩ := ha.cells
  have f0 := ha.fr 0
  obtain ⟨g0, g1, g2, g3, g4, g5, g6, g7, g8, g9⟩ := hc.frs
  obtain ⟨h0, h1, h2, h3, h4, h5, h6, h7, h8, h9⟩ := hc.cells
  go_enter Tryz.func106, Tryz.ntmps106
  go_upto_region 1 with fail
  rw [← hW1]
  clear hW1
  go_wp2_with fail
  refine bodyPost_ret (v := .agg #[.bool !s, .int .u64 (dig (m) 0), .int .u64 (dig (m) 1), .int .u64 (dig (m) 2), .int .u64 (dig (m) 3), .int .u64 (dig (m) 4), .int .u64 (dig (m) 5), .int .u64 (dig (m) 6), .int .u64 (dig (m) 7), .int .u64 (dig (m) 8)]) (by simp [results, Tryz.results106, go_sem, h0, h1, h2, h3, h4, h5, h6, h7, h8, h9]) rfl ⟨rfl, ?_⟩
  repeat (refine Below.setCell ?_ (by simp) _)
  exact hB

/-- A wide number as a whole one. -/
def sv (s : Bool) (m : Nat) : Int := if s then -(m : Int) else (m : Int)
/-- What Plus makes of signs and amounts. -/
def plusS (sa sb : Bool) (m n : Nat) : Bool := if sa = sb then sa else if m < n then sb else sa
def plusM (sa sb : Bool) (m n : Nat) : Nat := if sa = sb then m + n else if m < n then n - m else m - n

theorem setb (w : World) (b : Nat) (s s' : Bool) (f : Nat → Nat) (h : WB w b s f) : WB (w.setCell ⟨b, 0, none⟩ (.bool s')) b s' f := Blk.set_ h 0 (.bool s')

set_option maxRecDepth 100000 in
set_option maxHeartbeats 4000000 in
theorem Plus_any (w : World) (sa sb : Bool) (m n : Nat) (hm : m < 65536 ^ 9) (hn : n < 65536 ^ 9) :
    Calls Tryz.prog 105 #[wv sa m, wv sb n] w fun e w' => e = .returned (wv (plusS sa sb m n) (plusM sa sb m n)) ∧ Below w.heap.size w w' := by
  obtain ⟨W1, hW1, ha, hb, hc, hB1, hz1⟩ := boxes2 w sa sb (dig m) (dig n)
  have pP := plus_any W1 sa sb m n
  have pL := less_any W1 sa sb m n hm hn
  unfold wv wcs
  unfold wcs wz at hW1
  unfold wv wcs at pP pL
  have pP := Lib.hid pP
  obtain ⟨k0, k1, k2, k3, k4, k5, k6, k7, k8, k9⟩ := ha.cells
  obtain ⟨j0, j1, j2, j3, j4, j5, j6, j7, j8, j9⟩ := hb.cells
  have hz1l : w.heap.size + 3 ≤ W1.heap.size := by omega
  clear hz1
  by_cases hs : sa = sb
  · subst hs
    have e1 : plusS sa sa m n = sa := by simp [plusS]
    have e2 : plusM sa sa m n = m + n := by simp [plusM]
    rw [e1, e2]
    clear e1 e2 pL
    go_enter Tryz.func105, Tryz.ntmps105
    go_upto_region 1 with fail
    rw [← hW1]
    clear hW1
    go_wp2_with fail
    refine pP.out.mono ?_
    rintro e W2 ⟨rfl, hB2⟩
    have hc2 := hc.below hB2 (by omega)
    have hX2 := ha.below hB2 (by omega)
    have hz2 := hB2.size
    have hc3 := WB.alloc hc2 (.cells (wcs sa (dig (m + n))) 150)
    have hX3 := WB.alloc hX2 (.cells (wcs sa (dig (m + n))) 150)
    unfold wcs at hc3 hX3
    have q0 := hX3.cells.1
    obtain ⟨g0, g1, g2, g3, g4, g5, g6, g7, g8, g9⟩ := hc3.frs
    obtain ⟨h0, h1, h2, h3, h4, h5, h6, h7, h8, h9⟩ := hc3.cells
    have ne1 : ¬ w.heap.size + 1 + 1 = W2.heap.size := by omega
    have ne2 : ¬ w.heap.size = W2.heap.size := by omega
    have ne3 : ¬ w.heap.size + 1 = W2.heap.size := by omega
    have ne4 : ¬ W2.heap.size = w.heap.size + 1 + 1 := by omega
    go_wp2_with fail
    refine bodyPost_ret (v := .agg #[.bool sa, .int .u64 (dig (m + n) 0), .int .u64 (dig (m + n) 1), .int .u64 (dig (m + n) 2), .int .u64 (dig (m + n) 3), .int .u64 (dig (m + n) 4), .int .u64 (dig (m + n) 5), .int .u64 (dig (m + n) 6), .int .u64 (dig (m + n) 7), .int .u64 (dig (m + n) 8)]) (by simp [results, Tryz.results105, go_sem, h0, h1, h2, h3, h4, h5, h6, h7, h8, h9]) rfl ⟨rfl, ?_⟩
    repeat (refine Below.setCell ?_ (by simp; omega) _)
    first
      | exact (hB1.trans (hB2.mono (by omega))).alloc (by omega) _
      | exact ((hB1.trans (hB2.mono (by omega))).alloc (by omega) _).setCell (by simp; omega) _
  · have hs2 : (sa == sb) = false := by simpa using hs
    by_cases hlt : m < n
    · have e1 : plusS sa sb m n = sb := by simp [plusS, hs, hlt]
      have e2 : plusM sa sb m n = n - m := by simp [plusM, hs, hlt]
      rw [e1, e2]
      rw [decide_eq_true hlt] at pL
      have pM := fun W => minus_any W sb sa n m (by omega)
      unfold wv wcs at pM
      have pM := Lib.hid pM
      have pL := Lib.hid pL
      clear e1 e2 hs
      go_enter Tryz.func105, Tryz.ntmps105
      go_upto_region 1 with fail
      rw [← hW1]
      clear hW1
      go_wp2_with fail
      refine pL.out.mono ?_
      rintro e W1' ⟨rfl, hB1'⟩
      have ha := ha.below hB1' (by omega)
      have hb := hb.below hB1' (by omega)
      have hc := hc.below hB1' (by omega)
      have hB1 := hB1.trans (hB1'.mono (by omega))
      have hz1l : w.heap.size + 3 ≤ W1'.heap.size := by have := hB1'.size; omega
      clear k0 k1 k2 k3 k4 k5 k6 k7 k8 k9 j0 j1 j2 j3 j4 j5 j6 j7 j8 j9
      obtain ⟨k0, k1, k2, k3, k4, k5, k6, k7, k8, k9⟩ := ha.cells
      obtain ⟨j0, j1, j2, j3, j4, j5, j6, j7, j8, j9⟩ := hb.cells
      go_wp2_with fail
      refine (pM.out _).mono ?_
      rintro e W2 ⟨rfl, hB2⟩
      have hc2 := hc.below hB2 (by omega)
      have hX2 := hb.below hB2 (by omega)
      have hz2 := hB2.size
      have hc3 := WB.alloc hc2 (.cells (wcs sb (dig (n - m))) 150)
      have hX3 := WB.alloc hX2 (.cells (wcs sb (dig (n - m))) 150)
      unfold wcs at hc3 hX3
      have q0 := hX3.cells.1
      obtain ⟨g0, g1, g2, g3, g4, g5, g6, g7, g8, g9⟩ := hc3.frs
      obtain ⟨h0, h1, h2, h3, h4, h5, h6, h7, h8, h9⟩ := hc3.cells
      have ne1 : ¬ w.heap.size + 1 + 1 = W2.heap.size := by omega
      have ne2 : ¬ w.heap.size = W2.heap.size := by omega
      have ne3 : ¬ w.heap.size + 1 = W2.heap.size := by omega
      have ne4 : ¬ W2.heap.size = w.heap.size + 1 + 1 := by omega
      go_wp2_with fail
      refine bodyPost_ret (v := .agg #[.bool sb, .int .u64 (dig (n - m) 0), .int .u64 (dig (n - m) 1), .int .u64 (dig (n - m) 2), .int .u64 (dig (n - m) 3), .int .u64 (dig (n - m) 4), .int .u64 (dig (n - m) 5), .int .u64 (dig (n - m) 6), .int .u64 (dig (n - m) 7), .int .u64 (dig (n - m) 8)]) (by simp [results, Tryz.results105, go_sem, h0, h1, h2, h3, h4, h5, h6, h7, h8, h9]) rfl ⟨rfl, ?_⟩
      repeat (refine Below.setCell ?_ (by simp; omega) _)
      first
        | exact (hB1.trans (hB2.mono (by omega))).alloc (by omega) _
        | exact ((hB1.trans (hB2.mono (by omega))).alloc (by omega) _).setCell (by simp; omega) _
    · have e1 : plusS sa sb m n = sa := by simp [plusS, hs, hlt]
      have e2 : plusM sa sb m n = m - n := by simp [plusM, hs, hlt]
      rw [e1, e2]
      rw [decide_eq_false hlt] at pL
      have pM := fun W => minus_any W sa sb m n (by omega)
      unfold wv wcs at pM
      have pM := Lib.hid pM
      have pL := Lib.hid pL
      clear e1 e2 hs
      go_enter Tryz.func105, Tryz.ntmps105
      go_upto_region 1 with fail
      rw [← hW1]
      clear hW1
      go_wp2_with fail
      refine pL.out.mono ?_
      rintro e W1' ⟨rfl, hB1'⟩
      have ha := ha.below hB1' (by omega)
      have hb := hb.below hB1' (by omega)
      have hc := hc.below hB1' (by omega)
      have hB1 := hB1.trans (hB1'.mono (by omega))
      have hz1l : w.heap.size + 3 ≤ W1'.heap.size := by have := hB1'.size; omega
      clear k0 k1 k2 k3 k4 k5 k6 k7 k8 k9 j0 j1 j2 j3 j4 j5 j6 j7 j8 j9
      obtain ⟨k0, k1, k2, k3, k4, k5, k6, k7, k8, k9⟩ := ha.cells
      obtain ⟨j0, j1, j2, j3, j4, j5, j6, j7, j8, j9⟩ := hb.cells
      go_wp2_with fail
      refine (pM.out _).mono ?_
      rintro e W2 ⟨rfl, hB2⟩
      have hc2 := hc.below hB2 (by omega)
      have hX2 := ha.below hB2 (by omega)
      have hz2 := hB2.size
      have hc3 := WB.alloc hc2 (.cells (wcs sa (dig (m - n))) 150)
      have hX3 := WB.alloc hX2 (.cells (wcs sa (dig (m - n))) 150)
      unfold wcs at hc3 hX3
      have q0 := hX3.cells.1
      obtain ⟨g0, g1, g2, g3, g4, g5, g6, g7, g8, g9⟩ := hc3.frs
      obtain ⟨h0, h1, h2, h3, h4, h5, h6, h7, h8, h9⟩ := hc3.cells
      have ne1 : ¬ w.heap.size + 1 + 1 = W2.heap.size := by omega
      have ne2 : ¬ w.heap.size = W2.heap.size := by omega
      have ne3 : ¬ w.heap.size + 1 = W2.heap.size := by omega
      have ne4 : ¬ W2.heap.size = w.heap.size + 1 + 1 := by omega
      go_wp2_with fail
      refine bodyPost_ret (v := .agg #[.bool sa, .int .u64 (dig (m - n) 0), .int .u64 (dig (m - n) 1), .int .u64 (dig (m - n) 2), .int .u64 (dig (m - n) 3), .int .u64 (dig (m - n) 4), .int .u64 (dig (m - n) 5), .int .u64 (dig (m - n) 6), .int .u64 (dig (m - n) 7), .int .u64 (dig (m - n) 8)]) (by simp [results, Tryz.results105, go_sem, h0, h1, h2, h3, h4, h5, h6, h7, h8, h9]) rfl ⟨rfl, ?_⟩
      repeat (refine Below.setCell ?_ (by simp; omega) _)
      first
        | exact (hB1.trans (hB2.mono (by omega))).alloc (by omega) _
        | exact ((hB1.trans (hB2.mono (by omega))).alloc (by omega) _).setCell (by simp; omega) _

/-- Held at the limits. -/
def hold (z : Int) : Int := if z < -9223372036854775808 then -9223372036854775808 else if 9223372036854775807 < z then 9223372036854775807 else z
def heldV (s : Bool) (m : Nat) : Int := if s then (if 9223372036854775808 ≤ m then -9223372036854775808 else -(m : Int)) else (if 9223372036854775807 < m then 9223372036854775807 else (m : Int))
theorem heldV_eq (s : Bool) (m : Nat) : heldV s m = hold (sv s m) := by
  unfold heldV hold sv
  cases s
  · simp only [Bool.false_eq_true, if_false]
    split <;> split <;> (try split) <;> omega
  · simp only [if_true]
    split <;> split <;> (try split) <;> omega

theorem lo_dig {m j : Nat} (h : j < 4) : dig (m % 65536 ^ 4) j = dig m j := by
  unfold dig
  match j, h with
  | 0, _ => simp <;> omega
  | 1, _ => simp <;> omega
  | 2, _ => simp <;> omega
  | 3, _ => simp <;> omega

set_option maxRecDepth 100000 in
set_option maxHeartbeats 4000000 in
theorem held_any (w : World) (s : Bool) (m : Nat) (hm : m < 65536 ^ 5) :
    Calls Tryz.prog 104 #[wv s m] w fun e w' => e = .returned (.int .i64 (heldV s m)) ∧ Below w.heap.size w w' := by
  obtain ⟨W1, hW1, ha, hB⟩ : ∃ W1, W1 = w.alloc (.cells (wcs s (dig m)) 150) ∧ WB W1 w.heap.size s (dig m) ∧ Below w.heap.size w W1 := ⟨_, rfl, WB.new _ _ _, (Below.refl _ w).alloc (Nat.le_refl _) _⟩
  obtain ⟨k0, k1, k2, k3, k4, k5, k6, k7, k8, k9⟩ := ha.cells
  rw [dig_big' (i := 5) hm (by omega)] at k6 k7 k8 k9
  unfold wv wcs
  unfold wcs at hW1
  have hr : m % 65536 ^ 4 < 65536 ^ 4 := Nat.mod_lt _ (by decide)
  obtain ⟨r, hrr⟩ : ∃ r, r = m % 65536 ^ 4 := ⟨_, rfl⟩
  have hdig : ∀ j, j < 4 → dig r j = dig m j := fun j hj => by rw [hrr]; exact lo_dig hj
  have hr' : r < 18446744073709551616 := by rw [hrr]; exact hr
  have HR := Lib.hid hrr
  clear hr hrr
  by_cases hbig : dig m 4 = 0
  · rw [hbig] at k5
    have hrm : r = m := by
      have h1 := div_succ m 4
      rw [hbig, Nat.div_eq_of_lt hm] at h1
      have h2 := Nat.div_add_mod m (65536 ^ 4)
      rw [HR.out]
      omega
    have HRM := Lib.hid hrm
    clear hbig hrm
    go_enter Tryz.func104, Tryz.ntmps104
    go_upto_region 1 with fail
    rw [← hW1]
    clear hW1
    go_wp2_with fail
    go_loopw [3, 5] (fun u iv wr => ∃ k : Nat, k ≤ 4 ∧ iv = .int .i64 ((k : Int) - 1) ∧ u = .int .u64 ((r / 65536 ^ k : Nat) : Int) ∧ wr = W1) (fun _ iv _ => (intOf iv + 1).toNat)
    case atStart => exact ⟨4, by omega, rfl, by rw [show r / 65536 ^ 4 = 0 from Nat.div_eq_of_lt hr']; rfl, rfl⟩
    case round =>
      obtain ⟨k, hk, rfl, rfl, rfl⟩ := hrel
      match k, hk with
      | 0, _ =>
        rw [show (((0 : Nat) : Int) - 1) = -1 from rfl, show r / 65536 ^ 0 = r by simp]
        rw [HRM.out]
        by_cases h63 : 9223372036854775807 < m
        · have e1 : heldV s m = if s then -9223372036854775808 else 9223372036854775807 := by unfold heldV; rw [if_pos h63, if_pos (show 9223372036854775808 ≤ m by omega)]
          have E1 := Lib.hid e1
          have h63' : (9223372036854775807 : Int) < (m : Int) := by omega
          have h64 : (9223372036854775808 : Int) ≤ (m : Int) := by omega
          clear e1 h63
          cases s
          · go_wp2_with fail
            go_ret
            exact ⟨ret_int (by rw [E1.out]; rfl), hB⟩
          · go_wp2_with fail
            go_ret
            exact ⟨ret_int (by rw [E1.out]; rfl), hB⟩
        · have e1 : heldV s m = if s then -(m : Int) else (m : Int) := by unfold heldV; rw [if_neg h63, if_neg (show ¬ 9223372036854775808 ≤ m by omega)]
          have E1 := Lib.hid e1
          have h63' : (m : Int) ≤ 9223372036854775807 := by omega
          have h64 : ¬ (9223372036854775808 : Int) ≤ (m : Int) := by omega
          have w1 : IntKind.i64.wrap (m : Int) = (m : Int) := IntWalk.i64_in _ (by omega)
          have w2 : IntKind.i64.wrap (-(m : Int)) = -(m : Int) := IntWalk.i64_in _ (by omega)
          clear e1 h63
          cases s
          · go_wp2_with fail
            go_ret
            exact ⟨ret_int (by rw [E1.out]; rfl), hB⟩
          · go_wp2_with fail
            go_ret
            exact ⟨ret_int (by rw [E1.out]; rfl), hB⟩
      | j + 1, hj4 =>
        have hj : j < 4 := by omega
        rw [show (((j + 1 : Nat) : Int) - 1) = (j : Int) by omega]
        have c1 := ha.at_ (i := j) (by omega)
        rw [← hdig j hj] at c1
        have l1 := dig_lt r j
        have hs1 := div_succ r j
        have hle : r / 65536 ^ j ≤ r := Nat.div_le_self _ _
        have i1 : (0 : Int) ≤ (j : Int) := by omega
        have i2 : (j : Int) < 9 := by omega
        have HS := Lib.hid hs1
        generalize dig r j = x at c1 l1 hs1 HS
        generalize r / 65536 ^ (j + 1) = t at hs1 HS ⊢
        have b1 : x + 65536 * t < 18446744073709551616 := by omega
        clear hs1 hle
        have q1 : IntKind.u64.wrap ((t : Int) * 65536) = (t : Int) * 65536 := IntWalk.u64_in _ (by omega)
        have q2 : IntKind.u64.wrap ((t : Int) * 65536 + (x : Int)) = (t : Int) * 65536 + (x : Int) := IntWalk.u64_in _ (by omega)
        go_wp2_with fail
        go_roundw
        case rel => exact ⟨j, by omega, by simp <;> rfl, by rw [HS.out]; simp [Int.mul_comm, Int.add_comm], trivial⟩
        case measure => simp [intOf] <;> omega
  · have hmm : 18446744073709551616 ≤ m := by
      rcases Nat.lt_or_ge m (65536 ^ 4) with h | h
      · exact absurd (dig_big h) hbig
      · exact h
    have e1 : heldV s m = if s then -9223372036854775808 else 9223372036854775807 := by unfold heldV; rw [if_pos (show 9223372036854775808 ≤ m by omega), if_pos (show 9223372036854775807 < m by omega)]
    have E1 := Lib.hid e1
    have hpos : (0 : Int) < (dig m 4 : Int) := by omega
    clear e1 hmm hbig hm
    go_enter Tryz.func104, Tryz.ntmps104
    go_upto_region 1 with fail
    rw [← hW1]
    clear hW1
    go_wp2_with fail
    go_loopw [3, 5] (fun u iv wr => ∃ k : Nat, k ≤ 4 ∧ iv = .int .i64 ((k : Int) - 1) ∧ u = .int .u64 ((r / 65536 ^ k : Nat) : Int) ∧ wr = W1) (fun _ iv _ => (intOf iv + 1).toNat)
    case atStart => exact ⟨4, by omega, rfl, by rw [show r / 65536 ^ 4 = 0 from Nat.div_eq_of_lt hr']; rfl, rfl⟩
    case round =>
      obtain ⟨k, hk, rfl, rfl, rfl⟩ := hrel
      match k, hk with
      | 0, _ =>
        rw [show (((0 : Nat) : Int) - 1) = -1 from rfl, show r / 65536 ^ 0 = r by simp]
        cases s
        · go_wp2_with fail
          go_ret
          exact ⟨ret_int (by rw [E1.out]; rfl), hB⟩
        · go_wp2_with fail
          go_ret
          exact ⟨ret_int (by rw [E1.out]; rfl), hB⟩
      | j + 1, hj4 =>
        have hj : j < 4 := by omega
        rw [show (((j + 1 : Nat) : Int) - 1) = (j : Int) by omega]
        have c1 := ha.at_ (i := j) (by omega)
        rw [← hdig j hj] at c1
        have l1 := dig_lt r j
        have hs1 := div_succ r j
        have hle : r / 65536 ^ j ≤ r := Nat.div_le_self _ _
        have i1 : (0 : Int) ≤ (j : Int) := by omega
        have i2 : (j : Int) < 9 := by omega
        have HS := Lib.hid hs1
        generalize dig r j = x at c1 l1 hs1 HS
        generalize r / 65536 ^ (j + 1) = t at hs1 HS ⊢
        have b1 : x + 65536 * t < 18446744073709551616 := by omega
        clear hs1 hle
        have q1 : IntKind.u64.wrap ((t : Int) * 65536) = (t : Int) * 65536 := IntWalk.u64_in _ (by omega)
        have q2 : IntKind.u64.wrap ((t : Int) * 65536 + (x : Int)) = (t : Int) * 65536 + (x : Int) := IntWalk.u64_in _ (by omega)
        go_wp2_with fail
        go_roundw
        case rel => exact ⟨j, by omega, by simp <;> rfl, by rw [HS.out]; simp [Int.mul_comm, Int.add_comm], trivial⟩
        case measure => simp [intOf] <;> omega

theorem abs_lt {n : Int} (h1 : -9223372036854775808 ≤ n) (h2 : n ≤ 9223372036854775807) : n.natAbs ≤ 9223372036854775808 := by omega
theorem sv_of (n : Int) : sv (decide (n < 0)) n.natAbs = n := by
  unfold sv
  by_cases h : n < 0
  · rw [decide_eq_true h, if_pos rfl]; omega
  · rw [decide_eq_false h, if_neg (by simp)]; omega
theorem sv_plus (sa sb : Bool) (m n : Nat) : sv (plusS sa sb m n) (plusM sa sb m n) = sv sa m + sv sb n := by
  unfold sv plusS plusM
  by_cases h : sa = sb
  · subst h
    rw [if_pos rfl, if_pos rfl]
    cases sa <;> simp <;> omega
  · rw [if_neg h, if_neg h]
    by_cases hlt : m < n
    · rw [if_pos hlt, if_pos hlt]
      cases sa <;> cases sb <;> simp_all <;> omega
    · rw [if_neg hlt, if_neg hlt]
      cases sa <;> cases sb <;> simp_all <;> omega
theorem sv_not (s : Bool) (m : Nat) : sv (!s) m = - sv s m := by cases s <;> simp [sv]
theorem plusM_lt {sa sb : Bool} {m n : Nat} (hm : m ≤ 9223372036854775808) (hn : n ≤ 9223372036854775808) : plusM sa sb m n < 65536 ^ 5 := by
  unfold plusM
  have : (65536 : Nat) ^ 5 = 1208925819614629174706176 := by decide
  rw [this]
  split
  · omega
  · split <;> omega

set_option maxRecDepth 100000 in
set_option maxHeartbeats 1000000 in
theorem add_any (w : World) (a b : Int) (a1 : -9223372036854775808 ≤ a) (a2 : a ≤ 9223372036854775807) (b1 : -9223372036854775808 ≤ b) (b2 : b ≤ 9223372036854775807) :
    Calls Tryz.prog 90 #[.int .i64 a, .int .i64 b] w fun e w' => e = .returned (.int .i64 (hold (a + b))) ∧ Below w.heap.size w w' := by
  have la := abs_lt a1 a2
  have lb := abs_lt b1 b2
  have h9 : (9223372036854775808 : Nat) < 65536 ^ 9 := by decide
  have p1 := Lib.hid (of_any w a a1 a2)
  have p2 := Lib.hid (fun W => of_any W b b1 b2)
  have p3 := Lib.hid (fun W => Plus_any W (decide (a < 0)) (decide (b < 0)) a.natAbs b.natAbs (by omega) (by omega))
  have p4 := Lib.hid (fun W => held_any W (plusS (decide (a < 0)) (decide (b < 0)) a.natAbs b.natAbs) (plusM (decide (a < 0)) (decide (b < 0)) a.natAbs b.natAbs) (plusM_lt la lb))
  have hfin := Lib.hid (show heldV (plusS (decide (a < 0)) (decide (b < 0)) a.natAbs b.natAbs) (plusM (decide (a < 0)) (decide (b < 0)) a.natAbs b.natAbs) = hold (a + b) by rw [heldV_eq, sv_plus, sv_of, sv_of])
  clear la lb h9
  go_enter Tryz.func90, Tryz.ntmps90
  go_wp2_with fail
  refine p1.out.mono ?_
  rintro e w1 ⟨rfl, hb1⟩
  go_wp2_with fail
  refine (p2.out _).mono ?_
  rintro e w2 ⟨rfl, hb2⟩
  go_wp2_with fail
  refine (p3.out _).mono ?_
  rintro e w3 ⟨rfl, hb3⟩
  go_wp2_with fail
  refine (p4.out _).mono ?_
  rintro e w4 ⟨rfl, hb4⟩
  go_wp2_with fail
  go_ret
  have z1 := hb1.size
  have z2 := hb2.size
  have z3 := hb3.size
  exact ⟨ret_int hfin.out, ((hb1.trans (hb2.mono z1)).trans (hb3.mono (by omega))).trans (hb4.mono (by omega))⟩

set_option maxRecDepth 100000 in
set_option maxHeartbeats 1000000 in
theorem sub_any (w : World) (a b : Int) (a1 : -9223372036854775808 ≤ a) (a2 : a ≤ 9223372036854775807) (b1 : -9223372036854775808 ≤ b) (b2 : b ≤ 9223372036854775807) :
    Calls Tryz.prog 91 #[.int .i64 a, .int .i64 b] w fun e w' => e = .returned (.int .i64 (hold (a - b))) ∧ Below w.heap.size w w' := by
  have la := abs_lt a1 a2
  have lb := abs_lt b1 b2
  have h9 : (9223372036854775808 : Nat) < 65536 ^ 9 := by decide
  have p1 := Lib.hid (of_any w a a1 a2)
  have p2 := Lib.hid (fun W => of_any W b b1 b2)
  have p5 := Lib.hid (fun W => turn_any W (decide (b < 0)) b.natAbs)
  have p3 := Lib.hid (fun W => Plus_any W (decide (a < 0)) (!decide (b < 0)) a.natAbs b.natAbs (by omega) (by omega))
  have p4 := Lib.hid (fun W => held_any W (plusS (decide (a < 0)) (!decide (b < 0)) a.natAbs b.natAbs) (plusM (decide (a < 0)) (!decide (b < 0)) a.natAbs b.natAbs) (plusM_lt la lb))
  have hfin := Lib.hid (show heldV (plusS (decide (a < 0)) (!decide (b < 0)) a.natAbs b.natAbs) (plusM (decide (a < 0)) (!decide (b < 0)) a.natAbs b.natAbs) = hold (a - b) by rw [heldV_eq, sv_plus, sv_not, sv_of, sv_of, Int.sub_eq_add_neg])
  clear la lb h9
  generalize hsg : (!decide (b < 0)) = nb at p5 p3 p4 hfin
  clear hsg
  go_enter Tryz.func91, Tryz.ntmps91
  go_wp2_with fail
  refine p1.out.mono ?_
  rintro e w1 ⟨rfl, hb1⟩
  go_wp2_with fail
  refine (p2.out _).mono ?_
  rintro e w2 ⟨rfl, hb2⟩
  go_wp2_with fail
  refine (p5.out _).mono ?_
  rintro e w5 ⟨rfl, hb5⟩
  go_wp2_with fail
  refine (p3.out _).mono ?_
  rintro e w3 ⟨rfl, hb3⟩
  go_wp2_with fail
  refine (p4.out _).mono ?_
  rintro e w4 ⟨rfl, hb4⟩
  go_wp2_with fail
  go_ret
  have z1 := hb1.size
  have z2 := hb2.size
  have z3 := hb3.size
  have z5 := hb5.size
  exact ⟨ret_int hfin.out, (((hb1.trans (hb2.mono z1)).trans (hb5.mono (by omega))).trans (hb3.mono (by omega))).trans (hb4.mono (by omega))⟩
end Go.Proofs.YtckkpgopddnkiaaGreat.Num
namespace Go.Proofs.YtckkpgopddnkiaaGreat.Num
open Go.RowKit
set_option linter.all false

theorem hold_hi {z : Int} (h : 9223372036854775807 < z) : hold z = 9223372036854775807 := by unfold hold; rw [if_neg (by omega), if_pos h]
theorem hold_lo {z : Int} (h : z < -9223372036854775808) : hold z = -9223372036854775808 := by unfold hold; rw [if_pos h]
theorem hold_in {z : Int} (h : -9223372036854775808 ≤ z) (h' : z ≤ 9223372036854775807) : hold z = z := by unfold hold; rw [if_neg (by omega), if_neg (by omega)]
theorem hold_bd (z : Int) : -9223372036854775808 ≤ hold z ∧ hold z ≤ 9223372036854775807 := by unfold hold; split <;> (try split) <;> omega

set_option maxRecDepth 100000 in
set_option maxHeartbeats 1000000 in
theorem wadd_any (w : World) (a b : Int) (a1 : -9223372036854775808 ≤ a) (a2 : a ≤ 9223372036854775807) (b1 : -9223372036854775808 ≤ b) (b2 : b ≤ 9223372036854775807) :
    Calls Tryz.prog 97 #[.int .i64 a, .int .i64 b] w fun e w' => e = .returned (.int .i64 (hold (a + b))) ∧ w = w' := by
  by_cases c1 : 0 < b
  · by_cases c2 : 9223372036854775807 - b < a
    · have E := Lib.hid (hold_hi (z := a + b) (by omega))
      go_enter Tryz.func97, Tryz.ntmps97
      go_wp2
      go_ret
      exact ⟨ret_int E.out.symm, rfl⟩
    · have E := Lib.hid (hold_in (z := a + b) (by omega) (by omega))
      have c3 : decide (b < 0) = false := by simp; omega
      go_enter Tryz.func97, Tryz.ntmps97
      go_wp2
      go_ret
      exact ⟨ret_int E.out.symm, rfl⟩
  · have c1' : decide (0 < b) = false := by simpa using c1
    by_cases c2 : b < 0
    · by_cases c3 : a < -9223372036854775808 - b
      · have E := Lib.hid (hold_lo (z := a + b) (by omega))
        go_enter Tryz.func97, Tryz.ntmps97
        go_wp2
        go_ret
        exact ⟨ret_int E.out.symm, rfl⟩
      · have E := Lib.hid (hold_in (z := a + b) (by omega) (by omega))
        go_enter Tryz.func97, Tryz.ntmps97
        go_wp2
        go_ret
        exact ⟨ret_int E.out.symm, rfl⟩
    · have E := Lib.hid (hold_in (z := a + b) (by omega) (by omega))
      have c3 : decide (b < 0) = false := by simpa using c2
      go_enter Tryz.func97, Tryz.ntmps97
      go_wp2
      go_ret
      exact ⟨ret_int E.out.symm, rfl⟩

set_option maxRecDepth 100000 in
set_option maxHeartbeats 1000000 in
theorem wsub_any (w : World) (a b : Int) (a1 : -9223372036854775808 ≤ a) (a2 : a ≤ 9223372036854775807) (b1 : -9223372036854775808 ≤ b) (b2 : b ≤ 9223372036854775807) :
    Calls Tryz.prog 98 #[.int .i64 a, .int .i64 b] w fun e w' => e = .returned (.int .i64 (hold (a - b))) ∧ w = w' := by
  by_cases c1 : b < 0
  · by_cases c2 : 9223372036854775807 + b < a
    · have E := Lib.hid (hold_hi (z := a - b) (by omega))
      go_enter Tryz.func98, Tryz.ntmps98
      go_wp2
      go_ret
      exact ⟨ret_int E.out.symm, rfl⟩
    · have E := Lib.hid (hold_in (z := a - b) (by omega) (by omega))
      have c3 : decide (0 < b) = false := by simp; omega
      go_enter Tryz.func98, Tryz.ntmps98
      go_wp2
      go_ret
      exact ⟨ret_int E.out.symm, rfl⟩
  · have c1' : decide (b < 0) = false := by simpa using c1
    by_cases c2 : 0 < b
    · by_cases c3 : a < -9223372036854775808 + b
      · have E := Lib.hid (hold_lo (z := a - b) (by omega))
        go_enter Tryz.func98, Tryz.ntmps98
        go_wp2
        go_ret
        exact ⟨ret_int E.out.symm, rfl⟩
      · have E := Lib.hid (hold_in (z := a - b) (by omega) (by omega))
        go_enter Tryz.func98, Tryz.ntmps98
        go_wp2
        go_ret
        exact ⟨ret_int E.out.symm, rfl⟩
    · have E := Lib.hid (hold_in (z := a - b) (by omega) (by omega))
      have c3 : decide (0 < b) = false := by simpa using c2
      go_enter Tryz.func98, Tryz.ntmps98
      go_wp2
      go_ret
      exact ⟨ret_int E.out.symm, rfl⟩

def clampV (n lo hi : Int) : Int := max lo (min n (max lo hi))
set_option maxHeartbeats 1000000 in
theorem clamp_any (w : World) (n lo hi : Int) :
    Calls Tryz.prog 96 #[.int .i64 n, .int .i64 lo, .int .i64 hi] w fun e w' => e = .returned (.int .i64 (clampV n lo hi)) ∧ w = w' := by
  obtain ⟨m1, h1⟩ : ∃ m, (if lo < hi then hi else lo) = m := ⟨_, rfl⟩
  obtain ⟨m2, h2⟩ : ∃ m, (if m1 < n then m1 else n) = m := ⟨_, rfl⟩
  obtain ⟨m3, h3⟩ : ∃ m, (if lo < m2 then m2 else lo) = m := ⟨_, rfl⟩
  have E : clampV n lo hi = m3 := by
    unfold clampV
    rw [← h3, ← h2, ← h1]
    (repeat' split) <;> omega
  have E := Lib.hid E
  go_enter Tryz.func96, Tryz.ntmps96
  go_wp2
  go_ret
  exact ⟨ret_int E.out.symm, rfl⟩

/-- A quotient, rounded down; 0 by 0. -/
def floorV (a b : Int) : Int := if b = 0 then 0 else a / b
theorem floor_pos {a b : Int} (ha : 0 ≤ a) (hb : 0 < b) : floorV a b = a / b := by unfold floorV; rw [if_neg (by omega)]
theorem floor_neg0 {a b : Int} (ha : a < 0) (hb : 0 < b) (h : a.tmod b = 0) : floorV a b = a.tdiv b := by
  unfold floorV
  rw [if_neg (by omega)]
  have h1 := Int.mul_tdiv_add_tmod a b
  rw [h, Int.add_zero] at h1
  conv => lhs; rw [← h1]
  exact Int.mul_ediv_cancel_left _ (by omega)
theorem floor_neg1 {a b : Int} (ha : a < 0) (hb : 0 < b) (h : a.tmod b ≠ 0) : floorV a b = a.tdiv b - 1 := by
  unfold floorV
  rw [if_neg (by omega)]
  have h1 := Int.mul_tdiv_add_tmod a b
  have h2 : -b < a.tmod b := by
    have := Int.lt_tmod_of_pos a hb
    exact this
  have h3 : a.tmod b < 0 := by
    have : a.tmod b ≤ 0 := by
      have e : a.tmod b = -((-a).tmod b) := by rw [Int.neg_tmod, Int.neg_neg]
      have : 0 ≤ (-a).tmod b := Int.tmod_nonneg _ (by omega)
      omega
    omega
  have e : a = (a.tmod b + b) + b * (a.tdiv b - 1) := by rw [Int.mul_sub, Int.mul_one]; omega
  conv => lhs; rw [e]
  rw [Int.add_mul_ediv_left _ _ (by omega), Int.ediv_eq_zero_of_lt (by omega) (by omega)]
  omega
theorem tdiv_bd {a b : Int} (a1 : -9223372036854775808 ≤ a) (ha : a < 0) (hb : 0 < b) (h : a.tmod b ≠ 0) : -9223372036854775808 ≤ a.tdiv b - 1 ∧ a.tdiv b - 1 < 0 := by
  have h1 := floor_neg1 ha hb h
  unfold floorV at h1
  rw [if_neg (by omega)] at h1
  have h2 : a / b < 0 := Int.ediv_neg_of_neg_of_pos ha hb
  have h3 : a ≤ a / b := by
    have := Int.emod_def a b
    have := Int.emod_nonneg a (by omega : b ≠ 0)
    have : a / b * b ≤ a / b * 1 := Int.mul_le_mul_of_nonpos_left (by omega) (by omega)
    have h6 : b * (a / b) = a / b * b := Int.mul_comm _ _
    have h7 := Int.emod_lt_of_pos a hb
    by_cases hlt : a / b < a
    · exfalso
      have h8 : a / b * b ≤ (a - 1) * b := Int.mul_le_mul_of_nonneg_right (by omega) (by omega)
      have h9 : (a - 1) * b ≤ (a - 1) * 1 := Int.mul_le_mul_of_nonpos_left (by omega) (by omega)
      have h10 : a / b * b = a - a % b := by omega
      have h11 : (a - 1) * b = a * b - b := by rw [Int.sub_mul, Int.one_mul]
      have h12 : a * b ≤ a * 1 := Int.mul_le_mul_of_nonpos_left (by omega) (by omega)
      omega
    · omega
  omega


end Go.Proofs.YtckkpgopddnkiaaGreat.Num
