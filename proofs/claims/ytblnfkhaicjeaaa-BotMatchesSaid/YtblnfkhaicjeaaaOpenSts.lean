/-
  Reading arguments: a slice of states.
-/
import Derived.Test.YtblnfkhaicjeaaaOpenSt
namespace Go.Proofs.Ytblnfkhaicjeaaa.Gm
open Go.RowKit Go.WideShapes Go.ChangeShapes Go.ChangeAt Go.Deep Go.Proofs.Ytblnfkhaicjeaaa.Eql
set_option linter.all false

/-- A list of states that lies in memory. -/
def StRow (w : World) (a : Option Addr) (fs : List F) : Prop :=
  (∀ f ∈ fs, Wf f) ∧ (0 < fs.length → ∃ b off, a = some ⟨b, off, none⟩ ∧ b < w.heap.size ∧ ∀ j f, fs[j]? = some f → w.rangeAt b (off + j * 66) (stA f).toList)
theorem rangeAt_below {w w' : World} {b o : Nat} {L : List Value} (h : w.rangeAt b o L) (hb : Below w.heap.size w w') (hlt : b < w.heap.size) : w'.rangeAt b o L :=
  fun j v hj => (hb.cell (p := ⟨b, o + j, none⟩) hlt).trans (h j v hj)
theorem StRow.below {w w' : World} {a : Option Addr} {fs : List F} (h : StRow w a fs) (hb : Below w.heap.size w w') : StRow w' a fs :=
  ⟨h.1, fun hp => by
    obtain ⟨b, off, e, hlt, hc⟩ := h.2 hp
    exact ⟨b, off, e, Nat.lt_of_lt_of_le hlt hb.size, fun j f hf => rangeAt_below (hc j f hf) hb hlt⟩⟩

set_option maxRecDepth 100000 in
theorem open_states {H : Type} {enc : TypeId × Value → H} {W : World} {base : Nat} {spare : Nat → Bool} {held : Bool} {t : TypeId} {r : Reach} {b0 : Nat} {v : Value} {d : DataW H} {p : List MemPlace}
    (ht : Try.prog.underlying t = some (.slice 33)) (hv : Value.okWide Try.prog W r b0 t v) (h : DataW.Trod enc Try.prog W base spare held t v d p) :
    ∃ a cap, ∃ fs : List F, v = .slice a fs.length cap ∧ StRow W a fs ∧ fs.length ≤ cap ∧ cap ≤ maxLen := by
  obtain ⟨a0, len0, cap0, rfl⟩ := okWide_slice ht hv
  obtain ⟨fuel, hf⟩ := h
  have hc66 : Try.prog.cellsOf 33 = 66 := by kernel_rfl
  rcases open_slice ht hf with ⟨hcs, _⟩ | ⟨a, len, cap, m, n, D, Pl, hcs, hb, hl, hm, hmm, _, hi⟩
  · simp [Value.cells] at hcs
    obtain ⟨rfl, rfl, rfl⟩ := hcs
    exact ⟨none, 0, [], rfl, ⟨fun x hx => by simp at hx, fun h => by simp at h⟩, by simp, by simp [maxLen]⟩
  · simp [Value.cells] at hcs
    obtain ⟨rfl, rfl, rfl⟩ := hcs
    have hlm : len0 ≤ m := by rw [hmm]; split <;> omega
    have each : ∀ i, i < len0 → ∃ f : F, (∀ k, k < 66 → W.cell? (a.add (i * 66 + k)) = (stA f).toList[k]?) ∧ Wf f := by
      intro i hil
      obtain ⟨cs', hcc, ht'⟩ := hi i (by omega)
      rw [hc66] at hcc
      obtain ⟨hk, _⟩ := keyLits_of_trod 6 _ key33 _ _ _ ht'
      obtain ⟨f, e, hw⟩ := state_of_lits hk
      obtain ⟨_, hcl2, hat⟩ := World.cells?_some hcc
      refine ⟨f, fun k hk => ?_, hw⟩
      have g := hat k hk
      rw [← Go.Deep.add_add, g, e]
    obtain ⟨fs, hol, hops⟩ := I2.list_of len0 each
    subst hol
    refine ⟨some a, cap0, fs, rfl, ⟨fun x hx => ?_, fun hp => ?_⟩, hl, hm⟩
    · obtain ⟨i, hi⟩ := List.getElem?_of_mem hx
      exact (hops i x hi).2
    · obtain ⟨b, off, spot⟩ := a
      obtain ⟨x, hx⟩ : ∃ x, fs[0]? = some x := ⟨fs[0]'(by omega), by simp⟩
      have c0 := (hops 0 x hx).1 0 (by omega)
      rw [Array.getElem?_toList, stA_get _ (by omega)] at c0
      have hspot : spot = none := by simpa [Addr.add] using World.cell?_spot c0
      subst hspot
      have hadd : ∀ j, (⟨b, off, none⟩ : Addr).add j = ⟨b, off + j, none⟩ := fun j => by unfold Addr.add; split <;> simp_all
      refine ⟨b, off, rfl, ?_, fun j f hj k v hv => ?_⟩
      · have := World.block_lt_of_cell? W _ c0
        rw [hadd] at this
        exact this
      · have hk : k < 66 := by
          have := (List.getElem?_eq_some_iff.1 hv).1
          simpa [stA] using this
        have := (hops j f hj).1 k hk
        rw [hv, hadd, ← Nat.add_assoc] at this
        exact this
end Go.Proofs.Ytblnfkhaicjeaaa.Gm
