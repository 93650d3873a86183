/-
  Loads and stores of a state, a body and a shot in a drawn region, whole: the operation by a law of its own.
-/
import Derived.Test.YtblnfkhaicjeaaaWhole
import Derived.Test.YtblnfkhaicjeaaaRmv
import Derived.Deep.RegionHeld3
namespace Go.Proofs.Ytblnfkhaicjeaaa.Gm
open Go.RowKit Go.Sort Go.Proofs.Ytblnfkhaicjeaaa.Num
set_option linter.all false

def storeR (P : Program) (t : TypeId) (p v : Value) (w : World) : Result Next := (Sem.run P (Instr.storeAt t p v) w).andThen fun _ w' => .ok .skip w'
section
variable (ev : Operand → Value) (dst : Option Tmp) (x y : Operand) (ty : TypeId) (pos : String) (after : Array Edge) (guard : Option (Nat × Bool)) (w : World)
theorem exec_store (t : TypeId) : (execOp ev { dst := dst, op := Op.store t x y, type := ty, pos := pos, after := after, guard := guard }).run Try.prog w = storeR Try.prog t (ev x) (ev y) w := by
  unfold execOp storeR
  simp only [Sem.run_bind, Sem.run_pure]
theorem exec_load (t : TypeId) : (execOp ev { dst := dst, op := Op.load t x, type := ty, pos := pos, after := after, guard := guard }).run Try.prog w = loadR Try.prog t (ev x) w := by
  unfold execOp loadR
  simp only [Sem.run_bind, Sem.run_pure]
theorem exec_st33 : (execOp ev { dst := dst, op := Op.store 33 x y, type := ty, pos := pos, after := after, guard := guard }).run Try.prog w = storeR Try.prog 33 (ev x) (ev y) w := exec_store ..
theorem exec_st26 : (execOp ev { dst := dst, op := Op.store 26 x y, type := ty, pos := pos, after := after, guard := guard }).run Try.prog w = storeR Try.prog 26 (ev x) (ev y) w := exec_store ..
theorem exec_st29 : (execOp ev { dst := dst, op := Op.store 29 x y, type := ty, pos := pos, after := after, guard := guard }).run Try.prog w = storeR Try.prog 29 (ev x) (ev y) w := exec_store ..
theorem exec_ld26 : (execOp ev { dst := dst, op := Op.load 26 x, type := ty, pos := pos, after := after, guard := guard }).run Try.prog w = loadR Try.prog 26 (ev x) w := exec_load ..
theorem exec_ld29 : (execOp ev { dst := dst, op := Op.load 29 x, type := ty, pos := pos, after := after, guard := guard }).run Try.prog w = loadR Try.prog 29 (ev x) w := exec_load ..
end
theorem storeR_mid {w w' : World} {b o : Nat} {ty : TypeId} {cells : Array Value} (ht : w.there b o cells.size) (hi : (Try.prog.info? ty).map (·.size) = some cells.size) (h1 : cells.all (·.oneCell') = true) (hw : w.setCells b o cells.toList = w') :
    storeR Try.prog ty (.pointer (some ⟨b, o, none⟩)) (.agg cells) w = .ok .skip w' := by
  unfold storeR
  rw [run_storeAt_mid w b o ty cells ht hi h1, hw]
  rfl
/-- A row of cells, if it is there. -/
def rowIn (w : World) (g o n : Nat) : Option (List Value) := (List.range n).mapM fun j => w.cell? ⟨g, o + j, none⟩
theorem rowIn_aux (w : World) (g o : Nat) : ∀ (L : List Value) (k : Nat), (∀ j v, L[j]? = some v → w.cell? ⟨g, o + (k + j), none⟩ = some v) → (List.range' k L.length).mapM (fun j => w.cell? ⟨g, o + j, none⟩) = some L
  | [], k, _ => rfl
  | v :: L, k, h => by
    have h0 := h 0 v rfl
    have hr := rowIn_aux w g o L (k + 1) (fun j u hj => by
      have := h (j + 1) u (by simpa using hj)
      rw [← this]
      congr 2
      omega)
    rw [List.length_cons, List.range'_succ, List.mapM_cons]
    rw [Nat.add_zero] at h0
    rw [h0, hr]
    rfl
theorem rowIn_of {w : World} {g o n : Nat} {L : List Value} (h : w.rangeAt g o L) (hn : L.length = n) : rowIn w g o n = some L := by
  unfold rowIn
  rw [List.range_eq_range', ← hn]
  exact rowIn_aux w g o L 0 (fun j v hj => by rw [Nat.zero_add]; exact h j v hj)
theorem rowIn_drew (w : World) (g o n : Nat) : rowIn w.drew g o n = rowIn w g o n := rfl
theorem of_rowIn {w : World} {g o n : Nat} {L : List Value} (h : rowIn w g o n = some L) : w.rangeAt g o L ∧ L.length = n := by
  unfold rowIn at h
  rw [List.range_eq_range'] at h
  have key : ∀ (n k : Nat) (L : List Value), (List.range' k n).mapM (fun j => w.cell? ⟨g, o + j, none⟩) = some L → L.length = n ∧ ∀ j v, L[j]? = some v → w.cell? ⟨g, o + (k + j), none⟩ = some v := by
    intro n
    induction n with
    | zero => intro k L h; cases h; exact ⟨rfl, fun j v hj => by simp at hj⟩
    | succ n ih =>
      intro k L h
      rw [List.range'_succ, List.mapM_cons] at h
      cases h0 : w.cell? ⟨g, o + k, none⟩ with
      | none => rw [h0] at h; cases h
      | some v0 =>
        rw [h0] at h
        cases h1 : (List.range' (k + 1) n).mapM (fun j => w.cell? ⟨g, o + j, none⟩) with
        | none => rw [h1] at h; cases h
        | some L1 =>
          rw [h1] at h
          cases h
          obtain ⟨hl, hc⟩ := ih (k + 1) L1 h1
          refine ⟨by simp [hl], fun j v hj => ?_⟩
          cases j with
          | zero => simp at hj; rw [← hj]; simpa using h0
          | succ j => have := hc j v (by simpa using hj); rw [← this]; congr 2; omega
  obtain ⟨hl, hc⟩ := key n 0 L h
  exact ⟨fun j v hj => by have := hc j v hj; rwa [Nat.zero_add] at this, hl⟩
def loadI (w : World) (r : Result Next) : Option (List Value) → Result Next
  | some L => .ok (.value (.agg L.toArray)) w
  | none => r
theorem loadI_none (w : World) (r : Result Next) : loadI w r none = r := rfl
theorem loadI_some (w : World) (r : Result Next) (L : List Value) : loadI w r (some L) = .ok (.value (.agg L.toArray)) w := rfl
def loadR0 (P : Program) (t : TypeId) (v : Value) (w : World) : Result Next := loadR P t v w
theorem loadR_mid {ty : TypeId} {n : Nat} (w : World) (g o : Nat) (d : TypeDesc) (hu : Try.prog.underlying ty = some d) (hd : d.isRow = true) (hi : (Try.prog.info? ty).map (·.size) = some n) :
    loadR Try.prog ty (.pointer (some ⟨g, o, none⟩)) w = loadI w (loadR0 Try.prog ty (.pointer (some ⟨g, o, none⟩)) w) (rowIn w g o n) := by
  cases h : rowIn w g o n with
  | none => rw [loadI_none]; unfold loadR0; exact Eq.refl _
  | some L =>
    obtain ⟨hr, hl⟩ := of_rowIn h
    rw [loadI_some]
    unfold loadR
    rw [run_loadAt_mid w g o ty L d hr hu hd (by rw [hl]; exact hi)]
    rfl
theorem loadR26 (w : World) (g o : Nat) : loadR Try.prog 26 (.pointer (some ⟨g, o, none⟩)) w = loadI w (loadR0 Try.prog 26 (.pointer (some ⟨g, o, none⟩)) w) (rowIn w g o 7) :=
  loadR_mid w g o _ Try.underlying26 rfl infoB
theorem loadR29 (w : World) (g o : Nat) : loadR Try.prog 29 (.pointer (some ⟨g, o, none⟩)) w = loadI w (loadR0 Try.prog 29 (.pointer (some ⟨g, o, none⟩)) w) (rowIn w g o 6) :=
  loadR_mid w g o _ Try.underlying29 rfl infoS
end Go.Proofs.Ytblnfkhaicjeaaa.Gm
