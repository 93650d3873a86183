/-
  Reading arguments: a slice of structs of three ints. Over any program.
-/
import Derived.Test.YtmipapfanelheaaRingPlayed
import Derived.Test.YtmipapfanelheaaOpen
import Derived.ProofKit
import Derived.OpenShut
import Derived.Deep.Strs
namespace Go.Proofs.Ytmipapfanelheaa
open Go.RowKit Go.ChangeShapes Go.WideShapes Go.ChangeAt
set_option linter.all false

theorem list_of {α : Type} {P : Nat → α → Prop} : ∀ (n : Nat), (∀ i, i < n → ∃ x, P i x) → ∃ l : List α, l.length = n ∧ ∀ j x, l[j]? = some x → P j x
  | 0, _ => ⟨[], rfl, fun j x h => by simp at h⟩
  | n + 1, h => by
    obtain ⟨l, hl, hp⟩ := list_of n (fun i hi => h i (by omega))
    obtain ⟨x, hx⟩ := h n (by omega)
    refine ⟨l ++ [x], by simp [hl], fun j y hy => ?_⟩
    by_cases hj : j < n
    · rw [List.getElem?_append_left (by omega)] at hy; exact hp j y hy
    · rw [List.getElem?_append_right (by omega)] at hy
      have : j - l.length = 0 := by
        have := (List.getElem?_eq_some_iff.1 hy).1
        simp at this; omega
      rw [this] at hy
      have e : j = n := by omega
      subst e
      simpa using (by simpa using hy : x = y) ▸ hx

theorem open_row3 {H : Type} {enc : TypeId × Value → H} {P : Program} {W : World} {base : Nat} {spare : Nat → Bool} {held : Bool} {t e : TypeId} {f0 f1 f2 : Field} {r : Reach} {b0 : Nat} {v : Value} {d : DataW H} {p : List MemPlace}
    (ht : P.underlying t = some (.slice e)) (he : P.underlying e = some (.struct #[f0, f1, f2])) (hc : P.cellsOf e = 3) (o0 : f0.offset = 0) (o1 : f1.offset = 1) (o2 : f2.offset = 2)
    (k0 : P.underlying f0.type = some (.int .i64)) (k1 : P.underlying f1.type = some (.int .i64)) (k2 : P.underlying f2.type = some (.int .i64)) (c0 : P.cellsOf f0.type = 1) (c1 : P.cellsOf f1.type = 1) (c2 : P.cellsOf f2.type = 1)
    (hv : Value.okWide P W r b0 t v) (h : DataW.Trod enc P W base spare held t v d p) :
    ∃ a len cap ops, v = .slice a len cap ∧ Ops W a len ops ∧ OpsWf ops := by
  obtain ⟨a0, len0, cap0, rfl⟩ := okWide_slice ht hv
  obtain ⟨fuel, hf⟩ := h
  rcases DataW.trod_slice ht hf with ⟨hcs, _⟩ | ⟨a, len, cap, elems, rest, n, _, hcs, _, hb, hl, hm, hlen, hel, hsp, hns⟩
  · simp [Value.cells] at hcs
    obtain ⟨rfl, rfl, rfl⟩ := hcs
    exact ⟨none, 0, 0, [], rfl, ⟨rfl, fun h => by omega⟩, fun x hx => by cases hx⟩
  · simp [Value.cells] at hcs
    obtain ⟨rfl, rfl, rfl⟩ := hcs
    have each : ∀ i, i < len0 → ∃ x : Int × Int × Int, (W.cell? (a.add (i * 3)) = some (.int .i64 x.1) ∧ W.cell? ((a.add (i * 3)).add 1) = some (.int .i64 x.2.1) ∧ W.cell? ((a.add (i * 3)).add 2) = some (.int .i64 x.2.2)) ∧ (Lit.int .i64 x.2.1).wf = true := by
      intro i hi
      obtain ⟨y, hy⟩ : ∃ y, elems[i]? = some y := ⟨elems[i]'(by omega), by simp [hlen, hi]⟩
      have hb' := hel i hi
      rw [hy, hc, Option.bind_eq_some_iff] at hb'
      obtain ⟨cs, hcs, hyt⟩ := hb'
      obtain ⟨y0, y1, y2, m, rfl, hl3, t0, t1, t2⟩ := Go.Deep.trod_struct3 he hyt
      rw [o0, c0] at t0
      rw [o1, c1] at t1
      rw [o2, c2] at t2
      rw [hc] at hl3
      match cs, hl3 with
      | [z0, z1, z2], _ =>
        obtain ⟨n0, e0, _, w0⟩ := DataW.trod_int k0 (by simpa using t0)
        obtain ⟨n1, e1, _, w1⟩ := DataW.trod_int k1 (by simpa using t1)
        obtain ⟨n2, e2, _, w2⟩ := DataW.trod_int k2 (by simpa using t2)
        cases e0; cases e1; cases e2
        refine ⟨(n0, n1, n2), ?_, w1⟩
        unfold World.cells? at hcs
        rw [if_pos (by unfold Addr.add; split <;> exact hb)] at hcs
        rw [show List.range 3 = [0, 1, 2] from rfl] at hcs
        simp only [List.mapM_cons, List.mapM_nil, Option.bind_eq_bind, Option.bind_eq_some_iff, Option.pure_def, Option.some.injEq] at hcs
        obtain ⟨u0, g0, u1, ⟨v1, g1, v2, ⟨x2, g2, x3, rfl, rfl⟩, rfl⟩, hh⟩ := hcs
        cases hh
        exact ⟨by simpa [Addr.add] using g0, g1, g2⟩
    obtain ⟨ops, hol, hops⟩ := list_of len0 each
    refine ⟨some a, len0, cap0, ops, rfl, ⟨hol, fun hp => ?_⟩, fun x hx => ?_⟩
    · obtain ⟨b, off, spot⟩ := a
      obtain ⟨x, hx⟩ : ∃ x, ops[0]? = some x := ⟨ops[0]'(by omega), by simp⟩
      have c0 := (hops 0 x hx).1.1
      have hspot : spot = none := by simpa [Addr.add] using World.cell?_spot c0
      subst hspot
      have hadd : ∀ o j, (⟨b, o, none⟩ : Addr).add j = ⟨b, o + j, none⟩ := fun o j => by unfold Addr.add; split <;> simp_all
      refine ⟨b, off, rfl, ?_, fun j y hy => ?_⟩
      · have := World.block_lt_of_cell? W _ c0
        rw [hadd] at this
        exact this
      · have := (hops j y hy).1
        rw [hadd, hadd, hadd] at this
        exact this
    · obtain ⟨i, hi⟩ := List.getElem?_of_mem hx
      exact bounds_i64 (hops i x hi).2
end Go.Proofs.Ytmipapfanelheaa
