/-
  Reading arguments: a slice of slices of numbers. Over any program.
-/
import Derived.Test.YtmceaffoffemlaaOpenR4
namespace Go.Proofs.Ytmceaffoffemlaa.RR
open Go.RowKit Go.ChangeShapes Go.WideShapes Go.ChangeAt Go.Deep
set_option linter.all false

/-- One slice of numbers, from its own tread. -/
theorem row_of_trod {H : Type} {enc : TypeId × Value → H} {P : Program} {W : World} {base : Nat} {spare : Nat → Bool} {held : Bool} {t e : TypeId} {k : IntKind} {fuel : Nat} {v : Value} {x : DataW H × List MemPlace}
    (ht : P.underlying t = some (.slice e)) (he : P.underlying e = some (.int k)) (hc : P.cellsOf e = 1) (hf : DataW.trod enc P W base spare held fuel t [v] = some x) :
    ∃ a len cap zs, v = .slice a len cap ∧ len ≤ cap ∧ cap ≤ maxLen ∧ Row k W a len zs ∧ ∀ n ∈ zs, (Lit.int k n).wf = true := by
  rcases open_ints ht he hc hf with ⟨hcs, _⟩ | ⟨x, l, c, zs, hcs, _, hl, hm, hz, _, hcell, hwz⟩
  · simp at hcs
    subst hcs
    exact ⟨none, 0, 0, [], rfl, Nat.le_refl _, by simp [maxLen], ⟨rfl, fun h => by omega⟩, fun n hn => by cases hn⟩
  · simp at hcs
    subst hcs
    have hzl : l ≤ zs.length := by rw [hz]; split <;> omega
    refine ⟨some x, l, c, zs.take l, rfl, hl, hm, ⟨by simp; omega, fun hp => ?_⟩, fun n hn => hwz n (List.mem_of_mem_take hn)⟩
    obtain ⟨b, off, spot⟩ := x
    have c0 := hcell 0 (by omega)
    have hspot : spot = none := by simpa [Addr.add] using World.cell?_spot c0
    subst hspot
    have hadd : ∀ j, (⟨b, off, none⟩ : Addr).add j = ⟨b, off + j, none⟩ := fun j => by unfold Addr.add; split <;> simp_all
    refine ⟨b, off, rfl, ?_, fun j hj => ?_⟩
    · have := World.block_lt_of_cell? W _ c0
      rw [hadd] at this
      exact this
    · have hcj := hcell j (by omega)
      rw [hadd] at hcj
      rw [hcj]
      simp [nth, List.getD, hj]
theorem open_rows {H : Type} {enc : TypeId × Value → H} {P : Program} {W : World} {base : Nat} {spare : Nat → Bool} {held : Bool} {t e e2 : TypeId} {k : IntKind} {r : Reach} {b0 : Nat} {v : Value} {d : DataW H} {p : List MemPlace}
    (ht : P.underlying t = some (.slice e)) (he : P.underlying e = some (.slice e2)) (hc : P.cellsOf e = 1) (he2 : P.underlying e2 = some (.int k)) (hc2 : P.cellsOf e2 = 1) (hv : Value.okWide P W r b0 t v) (h : DataW.Trod enc P W base spare held t v d p) :
    ∃ a len cap, ∃ rs : List (Value × List Int), v = .slice a len cap ∧ len ≤ cap ∧ cap ≤ maxLen ∧ rs.length = len ∧
      (∀ x ∈ rs, ∃ b l c, x.1 = .slice b l c ∧ Row k W b l x.2 ∧ l ≤ c ∧ c ≤ maxLen ∧ ∀ n ∈ x.2, (Lit.int k n).wf = true) ∧
      (0 < len → ∃ b off, a = some ⟨b, off, none⟩ ∧ b < W.heap.size ∧ ∀ j x, rs[j]? = some x → W.cell? ⟨b, off + j, none⟩ = some x.1) := by
  obtain ⟨a0, len0, cap0, rfl⟩ := okWide_slice ht hv
  obtain ⟨fuel, hf⟩ := h
  rcases open_slice ht hf with ⟨hcs, _⟩ | ⟨a, len, cap, m, n, D, Pl, hcs, hb, hl, hm, hmm, hx, hi⟩
  · simp [Value.cells] at hcs
    obtain ⟨rfl, rfl, rfl⟩ := hcs
    exact ⟨none, 0, 0, [], rfl, Nat.le_refl _, by simp [maxLen], rfl, fun x hx => (by cases hx), fun h => by omega⟩
  · simp [Value.cells] at hcs
    obtain ⟨rfl, rfl, rfl⟩ := hcs
    have hlm : len0 ≤ m := by rw [hmm]; split <;> omega
    have each : ∀ i, i < len0 → ∃ x : Value × List Int, W.cell? (a.add i) = some x.1 ∧ ∃ b l c, x.1 = .slice b l c ∧ Row k W b l x.2 ∧ l ≤ c ∧ c ≤ maxLen ∧ ∀ n ∈ x.2, (Lit.int k n).wf = true := by
      intro i hil
      obtain ⟨cs', hcc, ht'⟩ := hi i (by omega)
      rw [hc] at hcc
      obtain ⟨_, hcl, hat⟩ := World.cells?_some hcc
      obtain ⟨u, rfl⟩ := List.length_eq_one_iff.1 hcl
      have h0 := hat 0 (by omega)
      obtain ⟨b, l, c, zs, e1, h1, h2, h3, h4⟩ := row_of_trod he he2 hc2 ht'
      refine ⟨(u, zs), ?_, b, l, c, e1, h3, h1, h2, h4⟩
      simpa [Nat.mul_one, Go.Deep.add_add] using h0
    obtain ⟨rs, hrl, hrs⟩ := R4.list_of len0 each
    refine ⟨some a, len0, cap0, rs, rfl, hl, hm, hrl, fun x hx => ?_, fun hp => ?_⟩
    · obtain ⟨i, hi⟩ := List.getElem?_of_mem hx
      exact (hrs i x hi).2
    · obtain ⟨b, off, spot⟩ := a
      obtain ⟨x, hx⟩ : ∃ x, rs[0]? = some x := ⟨rs[0]'(by omega), by simp⟩
      have c0 := (hrs 0 x hx).1
      have hspot : spot = none := by simpa [Addr.add] using World.cell?_spot c0
      subst hspot
      have hadd : ∀ j, (⟨b, off, none⟩ : Addr).add j = ⟨b, off + j, none⟩ := fun j => by unfold Addr.add; split <;> simp_all
      refine ⟨b, off, rfl, ?_, fun j y hy => ?_⟩
      · have := World.block_lt_of_cell? W _ c0
        rw [hadd] at this
        exact this
      · have := (hrs j y hy).1
        rw [hadd] at this
        exact this
end Go.Proofs.Ytmceaffoffemlaa.RR
