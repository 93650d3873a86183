/-
  A state's 66 cells in memory, as one list: read, written, a body or a shot of it read and written whole. Over any program.
-/
import Derived.Test.YtblnfkhaicjeaaaGm
import Derived.Deep.MidRow
namespace Go.Proofs.Ytblnfkhaicjeaaa.Gm
open Go.RowKit Go.Proofs.Ytblnfkhaicjeaaa.Num
set_option linter.all false

/-- Is a number a yes? -/
def onB (z : Int) : Bool := decide (z ≠ 0)
theorem onB_yes {z : Int} (h : z ≠ 0) : onB z = true := by simp [onB, h]
theorem onB_no {z : Int} (h : z = 0) : onB z = false := by simp [onB, h]
/-- A state's cell. -/
def cv (j : Nat) (z : Int) : Value := if j = 1 then .int .u32 z else if 16 ≤ j ∧ j < 64 ∧ (j - 16) % 6 = 0 then .bool (onB z) else .int .i64 z
def stA (f : F) : Array Value := Array.ofFn (n := 66) fun j => cv j.1 (f j.1)
def stV (f : F) : Value := .agg (stA f)
theorem stA_size (f : F) : (stA f).size = 66 := by simp [stA]
theorem stA_get (f : F) {j : Nat} (h : j < 66) : (stA f)[j]? = some (cv j (f j)) := by simp [stA, h]
theorem cv_one (j : Nat) (z : Int) : (cv j z).oneCell' = true := by unfold cv; (repeat' split) <;> rfl
theorem stA_one (f : F) : (stA f).all (·.oneCell') = true := by
  rw [Array.all_eq_true]
  intro i h
  simp only [stA, Array.getElem_ofFn]
  exact cv_one _ _
theorem stA_put (f : F) {j : Nat} (h : j < 66) (z : Int) : (stA f).setIfInBounds j (cv j z) = stA (put f j z) := by
  apply Array.ext_getElem?
  intro i
  rw [Array.getElem?_setIfInBounds]
  by_cases hi : i < 66
  · rw [stA_get _ hi, stA_get _ hi]
    by_cases e : j = i
    · subst e; simp [stA_size, hi, put]
    · simp [e, put, show ¬ i = j from fun x => e x.symm]
  · have h1 : (stA f)[i]? = none := Array.getElem?_eq_none (by rw [stA_size]; omega)
    have h2 : (stA (put f j z))[i]? = none := Array.getElem?_eq_none (by rw [stA_size]; omega)
    rw [h1, h2]
    have e : j ≠ i := by omega
    simp [e]
theorem cv_int {j : Nat} (z : Int) (h1 : j ≠ 1) (h2 : ¬ (16 ≤ j ∧ j < 64 ∧ (j - 16) % 6 = 0)) : cv j z = .int .i64 z := by unfold cv; rw [if_neg h1, if_neg h2]
theorem cv_seed (z : Int) : cv 1 z = .int .u32 z := rfl
theorem cv_on {k : Nat} (hk : k < 8) (z : Int) : cv (16 + k * 6) z = .bool (onB z) := by unfold cv; rw [if_neg (by omega), if_pos (by omega)]
theorem stA_congr {f g : F} (h : ∀ j, j < 66 → f j = g j) : stA f = stA g := by
  apply Array.ext_getElem?
  intro i
  by_cases hi : i < 66
  · rw [stA_get _ hi, stA_get _ hi, h i hi]
  · rw [Array.getElem?_eq_none (by rw [stA_size]; omega), Array.getElem?_eq_none (by rw [stA_size]; omega)]

/-- A block that holds a state (the block's type is its own). -/
def SB (w : World) (g : Nat) (t : TypeId) (f : F) : Prop := Blk w g t (stA f)
section
variable {S : Nat → Prop} {w w' : World} {g : Nat} {t : TypeId} {f : F}
theorem SB.lt (h : SB w g t f) : g < w.heap.size := Blk.lt h
theorem SB.at_ (h : SB w g t f) {j : Nat} (hj : j < 66) : w.cell? ⟨g, j, none⟩ = some (cv j (f j)) := (Blk.cell h j).trans (stA_get f hj)
theorem SB.fr (h : SB w g t f) (j : Nat) : w.frozen? ⟨g, j, none⟩ = false := Blk.frozen h j
theorem SB.int (h : SB w g t f) {j : Nat} (hj : j < 66) (h1 : j ≠ 1) (h2 : ¬ (16 ≤ j ∧ j < 64 ∧ (j - 16) % 6 = 0)) : w.cell? ⟨g, j, none⟩ = some (.int .i64 (f j)) := by rw [h.at_ hj, cv_int _ h1 h2]
theorem SB.seed (h : SB w g t f) : w.cell? ⟨g, 1, none⟩ = some (.int .u32 (f 1)) := h.at_ (by omega)
theorem SB.on (h : SB w g t f) {k : Nat} (hk : k < 8) : w.cell? ⟨g, 16 + k * 6, none⟩ = some (.bool (onB (f (16 + k * 6)))) := by rw [h.at_ (by omega), cv_on hk]
theorem SB.body (h : SB w g t f) {i j : Nat} (hi : i < 2) (hj : j < 7) : w.cell? ⟨g, 2 + i * 7 + j, none⟩ = some (.int .i64 (f (2 + i * 7 + j))) := h.int (by omega) (by omega) (by omega)
theorem SB.shot (h : SB w g t f) {k j : Nat} (hk : k < 8) (hj : j < 6) (h0 : 0 < j) : w.cell? ⟨g, 16 + k * 6 + j, none⟩ = some (.int .i64 (f (16 + k * 6 + j))) := h.int (by omega) (by omega) (by omega)
theorem SB.score (h : SB w g t f) {i : Nat} (hi : i < 2) : w.cell? ⟨g, 64 + i, none⟩ = some (.int .i64 (f (64 + i))) := h.int (by omega) (by omega) (by omega)
theorem SB.set_ (h : SB w g t f) {j : Nat} (hj : j < 66) (z : Int) : SB (w.setCell ⟨g, j, none⟩ (cv j z)) g t (put f j z) := by
  unfold SB
  rw [← stA_put f hj z]
  exact Blk.set_ h j _
theorem SB.setInt (h : SB w g t f) {j : Nat} (hj : j < 66) (h1 : j ≠ 1) (h2 : ¬ (16 ≤ j ∧ j < 64 ∧ (j - 16) % 6 = 0)) (z : Int) : SB (w.setCell ⟨g, j, none⟩ (.int .i64 z)) g t (put f j z) := by
  have := h.set_ hj z
  rwa [cv_int _ h1 h2] at this
theorem SB.drew (h : SB w g t f) : SB w.drew g t f := h
theorem SB.drewN (h : SB w g t f) (n : Nat) : SB (w.drewN n) g t f := h
theorem SB.alloc (h : SB w g t f) (o : Obj) : SB (w.alloc o) g t f := Blk.alloc h o
theorem SB.far (h : SB w g t f) {p : Addr} (hp : g ≠ p.block) (u : Value) : SB (w.setCell p u) g t f := Blk.far h hp u
theorem SB.below {B : Nat} (h : SB w g t f) (hb : Below B w w') (hB : g < B) : SB w' g t f := Blk.below h hb hB
theorem SB.touch (h : SB w g t f) (hb : Touch S w w') (hg : ¬ S g) : SB w' g t f := Blk.touch h hb hg
theorem SB.congr {f' : F} (h : SB w g t f) (hf : ∀ j, j < 66 → f j = f' j) : SB w g t f' := by unfold SB; rw [← stA_congr hf]; exact h
theorem SB.new (w : World) (t : TypeId) (f : F) : SB (w.alloc (.cells (stA f) t)) w.heap.size t f := Blk.new _ _ _
end

/-! ### A body, a shot as values -/
def bodL (b : Body) : List Value := [.int .i64 b.x, .int .i64 b.y, .int .i64 b.vx, .int .i64 b.vy, .int .i64 b.life, .int .i64 b.cool, .int .i64 b.facing]
def bodV (b : Body) : Value := .agg (bodL b).toArray
def shoL (s : Shot) : List Value := [.bool (onB s.on), .int .i64 s.x, .int .i64 s.y, .int .i64 s.vx, .int .i64 s.owner, .int .i64 s.frames]
def shoV (s : Shot) : Value := .agg (shoL s).toArray
section
variable {S : Nat → Prop} {w w' : World} {g : Nat} {t : TypeId} {f : F}
theorem SB.bodR (h : SB w g t f) {i : Nat} (hi : i < 2) : w.rangeAt g (2 + i * 7) (bodL (bod f (2 + i * 7))) := by
  intro j v hv
  match j, hv with
  | 0, hv => cases hv; exact h.body hi (j := 0) (by omega)
  | 1, hv => cases hv; exact h.body hi (j := 1) (by omega)
  | 2, hv => cases hv; exact h.body hi (j := 2) (by omega)
  | 3, hv => cases hv; exact h.body hi (j := 3) (by omega)
  | 4, hv => cases hv; exact h.body hi (j := 4) (by omega)
  | 5, hv => cases hv; exact h.body hi (j := 5) (by omega)
  | 6, hv => cases hv; exact h.body hi (j := 6) (by omega)
  | k + 7, hv => simp [bodL] at hv
theorem SB.shoR (h : SB w g t f) {k : Nat} (hk : k < 8) : w.rangeAt g (16 + k * 6) (shoL (sho f (16 + k * 6))) := by
  intro j v hv
  match j, hv with
  | 0, hv => cases hv; exact h.on hk
  | 1, hv => cases hv; exact h.shot hk (j := 1) (by omega) (by omega)
  | 2, hv => cases hv; exact h.shot hk (j := 2) (by omega) (by omega)
  | 3, hv => cases hv; exact h.shot hk (j := 3) (by omega) (by omega)
  | 4, hv => cases hv; exact h.shot hk (j := 4) (by omega) (by omega)
  | 5, hv => cases hv; exact h.shot hk (j := 5) (by omega) (by omega)
  | k + 6, hv => simp [shoL] at hv
theorem SB.there (h : SB w g t f) {o n : Nat} (ho : o + n ≤ 66) : w.there g o n := fun j hj => ⟨by rw [h.at_ (j := o + j) (by omega)]; rfl, h.fr _⟩
theorem SB.setBody (h : SB w g t f) {i : Nat} (hi : i < 2) (b : Body) : SB (w.setCells g (2 + i * 7) (bodL b)) g t (setB f (2 + i * 7) b) := by
  unfold setB
  exact ((((((h.setInt (j := 2 + i * 7) (by omega) (by omega) (by omega) b.x).setInt (j := 2 + i * 7 + 1) (by omega) (by omega) (by omega) b.y).setInt (j := 2 + i * 7 + 2) (by omega) (by omega) (by omega) b.vx).setInt (j := 2 + i * 7 + 3) (by omega) (by omega) (by omega) b.vy).setInt (j := 2 + i * 7 + 4) (by omega) (by omega) (by omega) b.life).setInt (j := 2 + i * 7 + 5) (by omega) (by omega) (by omega) b.cool).setInt (j := 2 + i * 7 + 6) (by omega) (by omega) (by omega) b.facing
theorem SB.setOn (h : SB w g t f) {k : Nat} (hk : k < 8) (z : Int) : SB (w.setCell ⟨g, 16 + k * 6, none⟩ (.bool (onB z))) g t (put f (16 + k * 6) z) := by
  have := h.set_ (j := 16 + k * 6) (by omega) z
  rwa [cv_on hk] at this
theorem SB.setShot (h : SB w g t f) {k : Nat} (hk : k < 8) (s : Shot) : SB (w.setCells g (16 + k * 6) (shoL s)) g t (setS f (16 + k * 6) s) := by
  unfold setS
  exact (((((h.setOn hk s.on).setInt (j := 16 + k * 6 + 1) (by omega) (by omega) (by omega) s.x).setInt (j := 16 + k * 6 + 2) (by omega) (by omega) (by omega) s.y).setInt (j := 16 + k * 6 + 3) (by omega) (by omega) (by omega) s.vx).setInt (j := 16 + k * 6 + 4) (by omega) (by omega) (by omega) s.owner).setInt (j := 16 + k * 6 + 5) (by omega) (by omega) (by omega) s.frames
theorem touch_cells (h : Touch S w w') (g : Nat) (hg : S g ∨ w.heap.size ≤ g) : ∀ (vs : List Value) (o : Nat), Touch S w (w'.setCells g o vs) := by
  intro vs
  induction vs generalizing w' with
  | nil => intro o; exact h
  | cons v r ih => intro o; exact ih (h.setCell (p := ⟨g, o, none⟩) hg v) (o + 1)
end
end Go.Proofs.Ytblnfkhaicjeaaa.Gm
