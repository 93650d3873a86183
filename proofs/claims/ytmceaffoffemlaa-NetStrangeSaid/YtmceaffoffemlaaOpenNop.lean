/-
  Reading arguments: a script of net's calls. Over any program.
-/
import Derived.Test.YtmceaffoffemlaaOpenRR
import Derived.Test.YtmceaffoffemlaaNetOp
namespace Go.Proofs.Ytmceaffoffemlaa.Nop
open Go.RowKit Go.ChangeShapes Go.WideShapes Go.ChangeAt Go.Deep Netw
set_option linter.all false

theorem bounds_i64 {n : Int} (h : (Lit.int .i64 n).wf = true) : -9223372036854775808 ≤ n ∧ n ≤ 9223372036854775807 := by
  simp [Lit.wf, IntKind.min, IntKind.max, IntKind.bits, IntKind.signed] at h
  omega
theorem open_script {H : Type} {enc : TypeId × Value → H} {P : Program} {W : World} {base : Nat} {spare : Nat → Bool} {held : Bool} {t e e8 : TypeId} {f0 f1 f2 f3 f4 f5 f6 : Field} {r : Reach} {b0 : Nat} {v : Value} {d : DataW H} {p : List MemPlace}
    (ht : P.underlying t = some (.slice e)) (he : P.underlying e = some (.struct #[f0, f1, f2, f3, f4, f5, f6])) (hone : oneCellFields P #[f0, f1, f2, f3, f4, f5, f6] = true) (hc : P.cellsOf e = 7)
    (h0 : P.underlying f0.type = some (.int .i64)) (h1 : P.underlying f1.type = some (.int .i64)) (h2 : P.underlying f2.type = some (.int .i64)) (h3 : P.underlying f3.type = some (.int .i64)) (h4 : P.underlying f4.type = some (.int .u8))
    (h5 : P.underlying f5.type = some (.slice e8)) (h8 : P.underlying e8 = some (.int .u8)) (hc8 : P.cellsOf e8 = 1) (h6 : P.underlying f6.type = some (.int .i64))
    (hv : Value.okWide P W r b0 t v) (h : DataW.Trod enc P W base spare held t v d p) :
    ∃ a len cap, ∃ ops : List OpR, v = .slice a len cap ∧ len ≤ maxLen ∧ Scr W a len ops := by
  obtain ⟨a0, len0, cap0, rfl⟩ := okWide_slice ht hv
  obtain ⟨fuel, hf⟩ := h
  rcases R4.open_slice_fields ht he hone hc hf with ⟨hcs, _⟩ | ⟨a, len, cap, m, D, Pl, hcs, hb, hl, hm, hmm, _, hi⟩
  · simp [Value.cells] at hcs
    obtain ⟨rfl, rfl, rfl⟩ := hcs
    exact ⟨none, 0, 0, [], rfl, by simp [maxLen], rfl, fun x hx => (by cases hx), fun h => by omega⟩
  · simp [Value.cells] at hcs
    obtain ⟨rfl, rfl, rfl⟩ := hcs
    have hlm : len0 ≤ m := by rw [hmm]; split <;> omega
    have each : ∀ i, i < len0 → ∃ o : OpR, (W.cell? (a.add (i * 7 + 0)) = some (.int .i64 o.k) ∧ W.cell? (a.add (i * 7 + 1)) = some (.int .i64 o.to_) ∧ W.cell? (a.add (i * 7 + 2)) = some (.int .i64 o.by_) ∧ W.cell? (a.add (i * 7 + 3)) = some (.int .i64 o.i) ∧
        W.cell? (a.add (i * 7 + 4)) = some (.int .u8 o.bt) ∧ W.cell? (a.add (i * 7 + 5)) = some (.slice o.da o.dl o.dc) ∧ W.cell? (a.add (i * 7 + 6)) = some (.int .i64 o.oft)) ∧ Row .u8 W o.da o.dl o.bs ∧ (-9223372036854775808 ≤ o.i ∧ o.i ≤ 9223372036854775807) := by
      intro i hil
      obtain ⟨ys, n, _, _, _, hfi⟩ := hi i (by omega)
      obtain ⟨v0, y0, c0, _, t0⟩ := hfi 0 f0 rfl
      obtain ⟨v1, y1, c1, _, t1⟩ := hfi 1 f1 rfl
      obtain ⟨v2, y2, c2, _, t2⟩ := hfi 2 f2 rfl
      obtain ⟨v3, y3, c3, _, t3⟩ := hfi 3 f3 rfl
      obtain ⟨v4, y4, c4, _, t4⟩ := hfi 4 f4 rfl
      obtain ⟨v5, y5, c5, _, t5⟩ := hfi 5 f5 rfl
      obtain ⟨v6, y6, c6, _, t6⟩ := hfi 6 f6 rfl
      obtain ⟨n0, e0, _, _⟩ := DataW.trod_int h0 t0
      obtain ⟨n1, e1, _, _⟩ := DataW.trod_int h1 t1
      obtain ⟨n2, e2, _, _⟩ := DataW.trod_int h2 t2
      obtain ⟨n3, e3, _, w3⟩ := DataW.trod_int h3 t3
      obtain ⟨n4, e4, _, _⟩ := DataW.trod_int h4 t4
      obtain ⟨x5, l5, k5, zs, rfl, _, _, hrow, _⟩ := RR.row_of_trod h5 h8 hc8 t5
      obtain ⟨n6, e6, _, _⟩ := DataW.trod_int h6 t6
      cases e0; cases e1; cases e2; cases e3; cases e4; cases e6
      exact ⟨⟨n0, n1, n2, n3, n4, x5, l5, k5, zs, n6⟩, ⟨c0, c1, c2, c3, c4, c5, c6⟩, hrow, bounds_i64 w3⟩
    obtain ⟨ops, hol, hops⟩ := R4.list_of len0 each
    refine ⟨some a, len0, cap0, ops, rfl, by omega, hol, fun o ho => ?_, fun hp => ?_⟩
    · obtain ⟨i, hi⟩ := List.getElem?_of_mem ho
      exact (hops i o hi).2
    · obtain ⟨b, off, spot⟩ := a
      obtain ⟨x, hx⟩ : ∃ x, ops[0]? = some x := ⟨ops[0]'(by omega), by simp⟩
      have c0 := (hops 0 x hx).1.1
      have hspot : spot = none := by simpa [Addr.add] using World.cell?_spot c0
      subst hspot
      have hadd : ∀ j, (⟨b, off, none⟩ : Addr).add j = ⟨b, off + j, none⟩ := fun j => by unfold Addr.add; split <;> simp_all
      refine ⟨b, off, rfl, ?_, fun j y hy => ?_⟩
      · have := World.block_lt_of_cell? W _ c0
        rw [hadd] at this
        exact this
      · have := (hops j y hy).1
        simp only [hadd, ← Nat.add_assoc, Nat.add_zero] at this
        exact this
end Go.Proofs.Ytmceaffoffemlaa.Nop
