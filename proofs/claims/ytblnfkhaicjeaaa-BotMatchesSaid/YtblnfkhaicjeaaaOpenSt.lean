/-
  Reading arguments: a state.
-/
import Derived.Test.YtblnfkhaicjeaaaOpen
import Derived.Test.YtblnfkhaicjeaaaOpenI2
import Derived.Test.YtblnfkhaicjeaaaGawake
import Derived.MapViews
namespace Go.Proofs.Ytblnfkhaicjeaaa.Gm
open Go.RowKit Go.WideShapes Go.ChangeShapes Go.Proofs.Ytblnfkhaicjeaaa.Eql
set_option linter.all false

theorem alike_get : ∀ {a b : List Lit}, Alike a b → ∀ (j : Nat) (x y : Lit), a[j]? = some x → b[j]? = some y → x.sameKind y
  | [], [], _, j, x, y, h, _ => by simp at h
  | a :: r, b :: s, h, 0, x, y, hx, hy => by simp at hx hy; subst hx; subst hy; exact h.1
  | a :: r, b :: s, h, j + 1, x, y, hx, hy => alike_get h.2 j x y (by simpa using hx) (by simpa using hy)
  | [], _ :: _, h, _, _, _, _, _ => h.elim
  | _ :: _, [], h, _, _, _, _, _ => h.elim
def numL : Lit → Int
  | .int _ n => n
  | .bool b => if b then 1 else 0
  | _ => 0
theorem state_of_lits {cs : List Value} {l : List Lit} (hk : Try.prog.keyLits 6 33 cs = some l) : ∃ f, cs = (stA f).toList ∧ Wf f := by
  obtain ⟨lz, hz⟩ := Option.isSome_iff_exists.1 lits33
  have e := cells_of_lits 6 _ tiled33 _ _ _ hk
  have ez := cells_of_lits 6 _ tiled33 _ _ _ hz
  have hal := keyLits_alike hk hz
  have w := keyLits_wf hk
  have wz := keyLits_wf hz
  have hlen : lz.length = 66 := by
    have := congrArg List.length ez
    simpa [stA] using this.symm
  have hlen2 : l.length = 66 := by rw [hal.length, hlen]
  have each : ∀ j, j < 66 → ∃ a, l[j]? = some a ∧ cs[j]? = some (cv j (numL a)) ∧ (-9223372036854775808 ≤ numL a ∧ numL a ≤ 9223372036854775807) ∧ (j = 1 → 0 ≤ numL a ∧ numL a < 4294967296) := by
    intro j hj
    have ha : l[j]? = some (l[j]'(by omega)) := List.getElem?_eq_getElem (by omega)
    have hb : lz[j]? = some (lz[j]'(by omega)) := List.getElem?_eq_getElem (by omega)
    have hs := alike_get hal j _ _ ha hb
    have wa := w _ (List.mem_of_getElem? ha)
    have wb := wz _ (List.mem_of_getElem? hb)
    have hc : cs[j]? = some (l[j]'(by omega)).toCell := by rw [e, List.getElem?_map, ha]; rfl
    have hcz : some (cv j (zF j)) = some (lz[j]'(by omega)).toCell := by
      rw [← stA_get zF hj, ← Array.getElem?_toList, ez, List.getElem?_map, hb]; rfl
    simp only [Option.some.injEq] at hcz
    refine ⟨_, ha, ?_⟩
    rw [hc]
    generalize l[j]'_ = a at *
    generalize lz[j]'_ = b at *
    clear hb ha hal w wz e ez hlen hlen2
    by_cases e1 : j = 1
    · subst e1
      rw [cv_seed] at hcz
      cases b <;> simp [Lit.toCell] at hcz
      obtain ⟨rfl, -⟩ := hcz
      cases a <;> simp [Lit.sameKind] at hs
      subst hs
      have bd := I2.bounds_u32 wa
      exact ⟨rfl, by simp only [numL]; omega, fun _ => bd⟩
    · by_cases e2 : 16 ≤ j ∧ j < 64 ∧ (j - 16) % 6 = 0
      · have ec : cv j (zF j) = .bool (onB (zF j)) := by unfold cv; rw [if_neg e1, if_pos e2]
        rw [ec] at hcz
        cases b <;> simp [Lit.toCell] at hcz
        all_goals try exact (wb : False).elim
        cases a <;> simp [Lit.sameKind] at hs
        rename_i b0 b1
        refine ⟨?_, by cases b1 <;> simp [numL], fun h => absurd h e1⟩
        unfold cv
        rw [if_neg e1, if_pos e2]
        cases b1 <;> rfl
      · rw [cv_int _ e1 e2] at hcz
        cases b <;> simp [Lit.toCell] at hcz
        obtain ⟨rfl, -⟩ := hcz
        cases a <;> simp [Lit.sameKind] at hs
        subst hs
        have bd := bounds_i64 wa
        exact ⟨by rw [cv_int _ e1 e2]; rfl, bd, fun h => absurd h e1⟩
  refine ⟨fun j => match l[j]? with | some a => numL a | none => 0, ?_, ⟨fun j hj => ?_, ?_⟩⟩
  · apply List.ext_getElem?
    intro j
    by_cases hj : j < 66
    · obtain ⟨a, h1, h2, _⟩ := each j hj
      rw [h2, Array.getElem?_toList, stA_get _ hj]
      simp only [h1]
    · have hl : cs.length = 66 := by rw [e]; simp [hlen2]
      rw [List.getElem?_eq_none (by omega), List.getElem?_eq_none (by simp [stA]; omega)]
  · obtain ⟨a, h1, _, h3, _⟩ := each j hj
    simp only [h1]
    exact h3
  · obtain ⟨a, h1, _, _, h4⟩ := each 1 (by omega)
    simp only [h1]
    exact h4 rfl
theorem open_state {H : Type} {enc : TypeId × Value → H} {W : World} {base : Nat} {spare : Nat → Bool} {held : Bool} {r : Reach} {b0 : Nat} {v : Value} {d : DataW H} {p : List MemPlace}
    (hv : Value.okWide Try.prog W r b0 33 v) (h : DataW.Trod enc Try.prog W base spare held 33 v d p) : ∃ f, v = stV f ∧ Wf f := by
  obtain ⟨fuel, hf⟩ := h
  obtain ⟨hk, _⟩ := keyLits_of_trod 6 _ key33 _ _ _ hf
  obtain ⟨f, e, hw⟩ := state_of_lits hk
  have hu := Try.underlying33
  simp only [Value.okWide, hu] at hv
  obtain ⟨cs, rfl, _, _⟩ := hv
  refine ⟨f, ?_, hw⟩
  have e2 : cs.toList = (stA f).toList := e
  rw [stV, Array.ext' e2]
end Go.Proofs.Ytblnfkhaicjeaaa.Gm
