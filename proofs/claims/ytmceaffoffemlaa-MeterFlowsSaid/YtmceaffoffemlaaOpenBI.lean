/-
  Reading arguments: a slice of structs of a bool and a number. Over any program.
-/
import Derived.Test.YtmceaffoffemlaaOpenR4
namespace Go.Proofs.Ytmceaffoffemlaa.BI
open Go.RowKit Go.ChangeShapes Go.WideShapes Go.ChangeAt Go.Deep
set_option linter.all false

theorem open_rowbi {H : Type} {enc : TypeId × Value → H} {P : Program} {W : World} {base : Nat} {spare : Nat → Bool} {held : Bool} {t e : TypeId} {f0 f1 : Field} {r : Reach} {b0 : Nat} {v : Value} {d : DataW H} {p : List MemPlace} {k1 : IntKind}
    (ht : P.underlying t = some (.slice e)) (he : P.underlying e = some (.struct #[f0, f1])) (hone : oneCellFields P #[f0, f1] = true) (hc : P.cellsOf e = 2)
    (h0 : P.underlying f0.type = some .bool) (h1 : P.underlying f1.type = some (.int k1))
    (hv : Value.okWide P W r b0 t v) (h : DataW.Trod enc P W base spare held t v d p) :
    ∃ a len cap, ∃ ops : List (Bool × Int), v = .slice a len cap ∧ len ≤ maxLen ∧ (ops.length = len ∧ (0 < len → ∃ b off, a = some ⟨b, off, none⟩ ∧ b < W.heap.size ∧ ∀ j x, ops[j]? = some x →
      W.cell? ⟨b, off + j * 2, none⟩ = some (.bool x.1) ∧ W.cell? ⟨b, off + j * 2 + 1, none⟩ = some (.int k1 x.2))) ∧ ∀ x ∈ ops, (Lit.int k1 x.2).wf = true := by
  obtain ⟨a0, len0, cap0, rfl⟩ := okWide_slice ht hv
  obtain ⟨fuel, hf⟩ := h
  rcases R4.open_slice_fields ht he hone hc hf with ⟨hcs, _⟩ | ⟨a, len, cap, m, D, Pl, hcs, hb, hl, hm, hmm, _, hi⟩
  · simp [Value.cells] at hcs
    obtain ⟨rfl, rfl, rfl⟩ := hcs
    exact ⟨none, 0, 0, [], rfl, by simp [maxLen], ⟨rfl, fun h => by omega⟩, fun x hx => by cases hx⟩
  · simp [Value.cells] at hcs
    obtain ⟨rfl, rfl, rfl⟩ := hcs
    have hlm : len0 ≤ m := by rw [hmm]; split <;> omega
    have each : ∀ i, i < len0 → ∃ x : Bool × Int, (W.cell? (a.add (i * 2 + 0)) = some (.bool x.1) ∧ W.cell? (a.add (i * 2 + 1)) = some (.int k1 x.2)) ∧ (Lit.int k1 x.2).wf = true := by
      intro i hil
      obtain ⟨ys, n, _, _, _, hfi⟩ := hi i (by omega)
      obtain ⟨v0, y0, c0, _, t0⟩ := hfi 0 f0 rfl
      obtain ⟨v1, y1, c1, _, t1⟩ := hfi 1 f1 rfl
      obtain ⟨b, e0, _⟩ := DataW.trod_bool h0 t0
      obtain ⟨n1, e1, _, w1⟩ := DataW.trod_int h1 t1
      cases e0; cases e1
      exact ⟨(b, n1), ⟨c0, c1⟩, w1⟩
    obtain ⟨ops, hol, hops⟩ := R4.list_of len0 each
    refine ⟨some a, len0, cap0, ops, rfl, by omega, ⟨hol, fun hp => ?_⟩, fun x hx => ?_⟩
    · obtain ⟨b, off, spot⟩ := a
      obtain ⟨x, hx⟩ : ∃ x, ops[0]? = some x := ⟨ops[0]'(by omega), by simp⟩
      have c0 := (hops 0 x hx).1.1
      have hspot : spot = none := by simpa [Addr.add] using World.cell?_spot c0
      subst hspot
      have hadd : ∀ j, (⟨b, off, none⟩ : Addr).add j = ⟨b, off + j, none⟩ := fun j => by unfold Addr.add; split <;> simp_all
      refine ⟨b, off, rfl, ?_, fun j y hy => ?_⟩
      · have := World.block_lt_of_cell? W _ c0
        rw [hadd] at this
        exact this
      · have := (hops j y hy).1
        simp only [hadd, ← Nat.add_assoc, Nat.add_zero] at this
        exact this
    · obtain ⟨i, hi⟩ := List.getElem?_of_mem hx
      exact (hops i x hi).2
end Go.Proofs.Ytmceaffoffemlaa.BI
