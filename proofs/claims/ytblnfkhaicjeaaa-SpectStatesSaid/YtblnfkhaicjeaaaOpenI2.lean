/-
  Reading arguments: a slice of pairs of inputs ([][2]api.Input). Over any program.
-/
import Derived.Test.YtblnfkhaicjeaaaOpen
import Derived.Test.YtblnfkhaicjeaaaGnew
import Derived.ProofKit
import Derived.OpenShut
import Derived.Deep.Strs
import Derived.Deep.Slices
import Derived.Deep.Fields
import Derived.ChangeSame
namespace Go.Proofs.Ytblnfkhaicjeaaa.I2
open Go.RowKit Go.ChangeShapes Go.WideShapes Go.ChangeAt Go.Deep Go.Proofs.Ytblnfkhaicjeaaa.Gm
set_option linter.all false

theorem list_of {α : Type} {P : Nat → α → Prop} : ∀ (n : Nat), (∀ i, i < n → ∃ x, P i x) → ∃ l : List α, l.length = n ∧ ∀ j x, l[j]? = some x → P j x
  | 0, _ => ⟨[], rfl, fun j x h => by simp at h⟩
  | n + 1, h => by
    obtain ⟨l, hl, hp⟩ := list_of n (fun i hi => h i (by omega))
    obtain ⟨x, hx⟩ := h n (by omega)
    refine ⟨l ++ [x], by simp [hl], fun j y hy => ?_⟩
    by_cases hj : j < n
    · rw [List.getElem?_append_left (by omega)] at hy; exact hp j y hy
    · rw [List.getElem?_append_right (by omega)] at hy
      have : j - l.length = 0 := by
        have := (List.getElem?_eq_some_iff.1 hy).1
        simp at this; omega
      rw [this] at hy
      have e : j = n := by omega
      subst e
      simpa using (by simpa using hy : x = y) ▸ hx
theorem bounds_u16 {n : Int} (h : (Lit.int .u16 n).wf = true) : 0 ≤ n ∧ n < 65536 := by
  simp [Lit.wf, IntKind.min, IntKind.max, IntKind.bits, IntKind.signed] at h
  omega
theorem bounds_u32 {n : Int} (h : (Lit.int .u32 n).wf = true) : 0 ≤ n ∧ n < 4294967296 := by
  simp [Lit.wf, IntKind.min, IntKind.max, IntKind.bits, IntKind.signed] at h
  omega
theorem inA_get {ls : List (Nat × Nat)} {j : Nat} {x : Nat × Nat} (h : ls[j]? = some x) : inA ls j 0 = x.1 ∧ inA ls j 1 = x.2 := by
  unfold inA
  rw [List.getD_eq_getElem?_getD, h]
  exact ⟨rfl, rfl⟩

theorem open_in2 {H : Type} {enc : TypeId × Value → H} {P : Program} {W : World} {base : Nat} {spare : Nat → Bool} {held : Bool} {t e e1 : TypeId} {r : Reach} {b0 : Nat} {v : Value} {d : DataW H} {p : List MemPlace}
    (ht : P.underlying t = some (.slice e)) (he : P.underlying e = some (.array 2 e1)) (he1 : P.underlying e1 = some (.int .u16)) (hc : P.cellsOf e = 2) (hc1 : P.cellsOf e1 = 1)
    (hv : Value.okWide P W r b0 t v) (h : DataW.Trod enc P W base spare held t v d p) :
    ∃ a cap, ∃ ls : List (Nat × Nat), v = .slice a ls.length cap ∧ InRow W a ls ∧ ls.length ≤ cap ∧ cap ≤ maxLen := by
  obtain ⟨a0, len0, cap0, rfl⟩ := okWide_slice ht hv
  obtain ⟨fuel, hf⟩ := h
  rcases open_slice ht hf with ⟨hcs, _⟩ | ⟨a, len, cap, m, n, D, Pl, hcs, hb, hl, hm, hmm, _, hi⟩
  · simp [Value.cells] at hcs
    obtain ⟨rfl, rfl, rfl⟩ := hcs
    exact ⟨none, 0, [], rfl, ⟨fun x hx => by simp at hx, fun h => by simp at h⟩, by simp, by simp [maxLen]⟩
  · simp [Value.cells] at hcs
    obtain ⟨rfl, rfl, rfl⟩ := hcs
    have hlm : len0 ≤ m := by rw [hmm]; split <;> omega
    have each : ∀ i, i < len0 → ∃ x : Nat × Nat, (W.cell? (a.add (i * 2 + 0)) = some (.int .u16 x.1) ∧ W.cell? (a.add (i * 2 + 1)) = some (.int .u16 x.2)) ∧ x.1 < 65536 ∧ x.2 < 65536 := by
      intro i hil
      obtain ⟨cs', hcc, ht'⟩ := hi i (by omega)
      rw [hc] at hcc
      obtain ⟨xs, m', _, _, hcl, hxl, hx⟩ := DataW.trod_array he ht'
      obtain ⟨_, hcl2, hat⟩ := World.cells?_some hcc
      have t0 := hx 0 (by omega)
      have t1 := hx 1 (by omega)
      rw [hc1] at t0 t1
      simp only [Nat.zero_mul, Nat.one_mul, List.drop_zero] at t0 t1
      have x0 : xs[0]? = some (xs[0]'(by omega)) := List.getElem?_eq_getElem (by omega)
      have x1 : xs[1]? = some (xs[1]'(by omega)) := List.getElem?_eq_getElem (by omega)
      obtain ⟨n0, e0, _, w0⟩ := DataW.trod_int he1 (t0.trans x0)
      obtain ⟨n1, e1, _, w1⟩ := DataW.trod_int he1 (t1.trans x1)
      have b0 := bounds_u16 w0
      have b1 := bounds_u16 w1
      have g0 := hat 0 (by omega)
      have g1 := hat 1 (by omega)
      have k0 : cs'[0]? = some (.int .u16 n0) := by
        have := congrArg (fun l => l[0]?) e0
        simpa [List.getElem?_take] using this
      have k1 : cs'[1]? = some (.int .u16 n1) := by
        have := congrArg (fun l => l[0]?) e1
        simpa [List.getElem?_take, List.getElem?_drop] using this
      obtain ⟨m0, rfl⟩ : ∃ m0 : Nat, n0 = m0 := ⟨n0.toNat, by omega⟩
      obtain ⟨m1, rfl⟩ : ∃ m1 : Nat, n1 = m1 := ⟨n1.toNat, by omega⟩
      refine ⟨(m0, m1), ⟨?_, ?_⟩, by omega, by omega⟩
      · rw [← Go.Deep.add_add, g0, k0]
      · rw [← Go.Deep.add_add, g1, k1]
    obtain ⟨ls, hol, hops⟩ := list_of len0 each
    subst hol
    refine ⟨some a, cap0, ls, rfl, ⟨fun x hx => ?_, fun hp => ?_⟩, hl, hm⟩
    · obtain ⟨i, hi⟩ := List.getElem?_of_mem hx
      exact (hops i x hi).2
    · obtain ⟨b, off, spot⟩ := a
      obtain ⟨x, hx⟩ : ∃ x, ls[0]? = some x := ⟨ls[0]'(by omega), by simp⟩
      have c0 := (hops 0 x hx).1.1
      have hspot : spot = none := by simpa [Addr.add] using World.cell?_spot c0
      subst hspot
      have hadd : ∀ j, (⟨b, off, none⟩ : Addr).add j = ⟨b, off + j, none⟩ := fun j => by unfold Addr.add; split <;> simp_all
      refine ⟨b, off, rfl, ?_, fun j hj => ?_⟩
      · have := World.block_lt_of_cell? W _ c0
        rw [hadd] at this
        exact this
      · have hg : ls[j]? = some (ls[j]'hj) := List.getElem?_eq_getElem hj
        have := (hops j _ hg).1
        simp only [hadd, ← Nat.add_assoc, Nat.add_zero] at this
        rw [(inA_get hg).1, (inA_get hg).2]
        exact this
end Go.Proofs.Ytblnfkhaicjeaaa.I2
