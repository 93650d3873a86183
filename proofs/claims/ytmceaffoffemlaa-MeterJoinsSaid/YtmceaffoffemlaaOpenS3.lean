/-
  Reading arguments: a struct of three slices of numbers. Over any program.
-/
import Derived.Test.YtmceaffoffemlaaOpenRR
namespace Go.Proofs.Ytmceaffoffemlaa.S3
open Go.RowKit Go.ChangeShapes Go.WideShapes Go.ChangeAt Go.Deep
set_option linter.all false

theorem open_s3 {H : Type} {enc : TypeId × Value → H} {P : Program} {W : World} {base : Nat} {spare : Nat → Bool} {held : Bool} {t e : TypeId} {f0 f1 f2 : Field} {r : Reach} {b0 : Nat} {v : Value} {d : DataW H} {p : List MemPlace} {k : IntKind}
    (ht : P.underlying t = some (.struct #[f0, f1, f2])) (hone : oneCellFields P #[f0, f1, f2] = true) (hc : P.cellsOf t = 3)
    (h0 : P.underlying f0.type = some (.slice e)) (h1 : P.underlying f1.type = some (.slice e)) (h2 : P.underlying f2.type = some (.slice e)) (he : P.underlying e = some (.int k)) (hce : P.cellsOf e = 1)
    (hv : Value.okWide P W r b0 t v) (h : DataW.Trod enc P W base spare held t v d p) :
    ∃ a0 c0 z0 a1 c1 z1 a2 c2 z2, v = .agg #[.slice a0 z0.length c0, .slice a1 z1.length c1, .slice a2 z2.length c2] ∧
      (Row k W a0 z0.length z0 ∧ z0.length ≤ maxLen ∧ ∀ n ∈ z0, (Lit.int k n).wf = true) ∧ (Row k W a1 z1.length z1 ∧ z1.length ≤ maxLen ∧ ∀ n ∈ z1, (Lit.int k n).wf = true) ∧ (Row k W a2 z2.length z2 ∧ z2.length ≤ maxLen ∧ ∀ n ∈ z2, (Lit.int k n).wf = true) := by
  obtain ⟨cs, rfl, hsz⟩ := okWide_struct ht hv
  rw [hc] at hsz
  obtain ⟨fuel, hf⟩ := h
  obtain ⟨ys, n', hn', hy, hlen, hyl, hfi⟩ := DataW.trod_struct ht hf
  have each : ∀ (j : Nat) (f : Field), (#[f0, f1, f2] : Array Field)[j]? = some f → P.underlying f.type = some (.slice e) → ∃ a c z, cs[j]? = some (.slice a z.length c) ∧ Row k W a z.length z ∧ z.length ≤ maxLen ∧ ∀ n ∈ z, (Lit.int k n).wf = true := by
    intro j f hj hu
    obtain ⟨ho, hk⟩ := hone_of hone j f hj
    have hjl : j < 3 := (Array.getElem?_eq_some_iff.1 hj).1
    have h1 := hfi j f hj
    rw [ho, hk] at h1
    have hcl : (Value.cells (.agg cs)).toList.length = 3 := by simp [Value.cells, hsz]
    have hone' : ((Value.cells (.agg cs)).toList.drop j).take 1 = [cs[j]'(by omega)] := by
      rw [List.drop_eq_getElem_cons (by omega)]
      simp [Value.cells]
    rw [hone'] at h1
    have hys : ys[j]? = some (ys[j]'(by rw [hyl]; exact hjl)) := List.getElem?_eq_getElem _
    obtain ⟨a, l, c, z, e1, _, hm, hrow, hwf⟩ := RR.row_of_trod hu he hce (h1.trans hys)
    obtain rfl : z.length = l := hrow.1
    refine ⟨a, c, z, ?_, hrow, by omega, hwf⟩
    rw [← e1, Array.getElem?_eq_getElem (by omega)]
  obtain ⟨a0, c0, z0, e0, r0⟩ := each 0 f0 rfl h0
  obtain ⟨a1, c1, z1, e1, r1⟩ := each 1 f1 rfl h1
  obtain ⟨a2, c2, z2, e2, r2⟩ := each 2 f2 rfl h2
  refine ⟨a0, c0, z0, a1, c1, z1, a2, c2, z2, ?_, r0, r1, r2⟩
  congr 1
  apply Array.ext
  · simp [hsz]
  · intro i hi1 hi2
    rw [hsz] at hi1
    have g : ∀ {x : Value}, cs[i]? = some x → cs[i]'(by omega) = x := fun {x} hx => by rw [Array.getElem?_eq_getElem (by omega)] at hx; exact Option.some.inj hx
    obtain rfl | rfl | rfl : i = 0 ∨ i = 1 ∨ i = 2 := by omega
    · exact g e0
    · exact g e1
    · exact g e2
end Go.Proofs.Ytmceaffoffemlaa.S3
