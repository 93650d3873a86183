/-
  Reading arguments: a state, a slice of states, a slice of operations, two of them. No condition.
-/
import Derived.Test.YtblnfkhaicjeaaaOpen
import Derived.Test.YtblnfkhaicjeaaaOpenI2
import Derived.Test.YtblnfkhaicjeaaaGawake
import Derived.MapViews
namespace Go.Proofs.Ytblnfkhaicjeaaa.Gm
open Go.RowKit Go.WideShapes Go.ChangeShapes Go.Proofs.Ytblnfkhaicjeaaa.Eql
set_option linter.all false

theorem alike_get : ∀ {a b : List Lit}, Alike a b → ∀ (j : Nat) (x y : Lit), a[j]? = some x → b[j]? = some y → x.sameKind y
  | [], [], _, j, x, y, h, _ => by simp at h
  | a :: r, b :: s, h, 0, x, y, hx, hy => by simp at hx hy; subst hx; subst hy; exact h.1
  | a :: r, b :: s, h, j + 1, x, y, hx, hy => alike_get h.2 j x y (by simpa using hx) (by simpa using hy)
  | [], _ :: _, h, _, _, _, _, _ => h.elim
  | _ :: _, [], h, _, _, _, _, _ => h.elim
def numL : Lit → Int
  | .int _ n => n
  | .bool b => if b then 1 else 0
  | _ => 0
theorem state_of_lits {cs : List Value} {l : List Lit} (hk : Try.prog.keyLits 6 33 cs = some l) : ∃ f, cs = (stA f).toList ∧ Wf f := by
  obtain ⟨lz, hz⟩ := Option.isSome_iff_exists.1 lits33
  have e := cells_of_lits 6 _ tiled33 _ _ _ hk
  have ez := cells_of_lits 6 _ tiled33 _ _ _ hz
  have hal := keyLits_alike hk hz
  have w := keyLits_wf hk
  have wz := keyLits_wf hz
  have hlen : lz.length = 66 := by
    have := congrArg List.length ez
    simpa [stA] using this.symm
  have hlen2 : l.length = 66 := by rw [hal.length, hlen]
  have each : ∀ j, j < 66 → ∃ a, l[j]? = some a ∧ cs[j]? = some (cv j (numL a)) ∧ (-9223372036854775808 ≤ numL a ∧ numL a ≤ 9223372036854775807) ∧ (j = 1 → 0 ≤ numL a ∧ numL a < 4294967296) := by
    intro j hj
    have ha : l[j]? = some (l[j]'(by omega)) := List.getElem?_eq_getElem (by omega)
    have hb : lz[j]? = some (lz[j]'(by omega)) := List.getElem?_eq_getElem (by omega)
    have hs := alike_get hal j _ _ ha hb
    have wa := w _ (List.mem_of_getElem? ha)
    have wb := wz _ (List.mem_of_getElem? hb)
    have hc : cs[j]? = some (l[j]'(by omega)).toCell := by rw [e, List.getElem?_map, ha]; rfl
    have hcz : some (cv j (zF j)) = some (lz[j]'(by omega)).toCell := by
      rw [← stA_get zF hj, ← Array.getElem?_toList, ez, List.getElem?_map, hb]; rfl
    simp only [Option.some.injEq] at hcz
    refine ⟨_, ha, ?_⟩
    rw [hc]
    generalize l[j]'_ = a at *
    generalize lz[j]'_ = b at *
    clear hb ha hal w wz e ez hlen hlen2
    by_cases e1 : j = 1
    · subst e1
      rw [cv_seed] at hcz
      cases b <;> simp [Lit.toCell] at hcz
      obtain ⟨rfl, -⟩ := hcz
      cases a <;> simp [Lit.sameKind] at hs
      subst hs
      have bd := I2.bounds_u32 wa
      exact ⟨rfl, by simp only [numL]; omega, fun _ => bd⟩
    · by_cases e2 : 16 ≤ j ∧ j < 64 ∧ (j - 16) % 6 = 0
      · have ec : cv j (zF j) = .bool (onB (zF j)) := by unfold cv; rw [if_neg e1, if_pos e2]
        rw [ec] at hcz
        cases b <;> simp [Lit.toCell] at hcz
        all_goals try exact (wb : False).elim
        cases a <;> simp [Lit.sameKind] at hs
        rename_i b0 b1
        refine ⟨?_, by cases b1 <;> simp [numL], fun h => absurd h e1⟩
        unfold cv
        rw [if_neg e1, if_pos e2]
        cases b1 <;> rfl
      · rw [cv_int _ e1 e2] at hcz
        cases b <;> simp [Lit.toCell] at hcz
        obtain ⟨rfl, -⟩ := hcz
        cases a <;> simp [Lit.sameKind] at hs
        subst hs
        have bd := bounds_i64 wa
        exact ⟨by rw [cv_int _ e1 e2]; rfl, bd, fun h => absurd h e1⟩
  refine ⟨fun j => match l[j]? with | some a => numL a | none => 0, ?_, ⟨fun j hj => ?_, ?_⟩⟩
  · apply List.ext_getElem?
    intro j
    by_cases hj : j < 66
    · obtain ⟨a, h1, h2, _⟩ := each j hj
      rw [h2, Array.getElem?_toList, stA_get _ hj]
      simp only [h1]
    · have hl : cs.length = 66 := by rw [e]; simp [hlen2]
      rw [List.getElem?_eq_none (by omega), List.getElem?_eq_none (by simp [stA]; omega)]
  · obtain ⟨a, h1, _, h3, _⟩ := each j hj
    simp only [h1]
    exact h3
  · obtain ⟨a, h1, _, _, h4⟩ := each 1 (by omega)
    simp only [h1]
    exact h4 rfl
theorem open_state {H : Type} {enc : TypeId × Value → H} {W : World} {base : Nat} {spare : Nat → Bool} {held : Bool} {r : Reach} {b0 : Nat} {v : Value} {d : DataW H} {p : List MemPlace}
    (hv : Value.okWide Try.prog W r b0 33 v) (h : DataW.Trod enc Try.prog W base spare held 33 v d p) : ∃ f, v = stV f ∧ Wf f := by
  obtain ⟨fuel, hf⟩ := h
  obtain ⟨hk, _⟩ := keyLits_of_trod 6 _ key33 _ _ _ hf
  obtain ⟨f, e, hw⟩ := state_of_lits hk
  have hu := Try.underlying33
  simp only [Value.okWide, hu] at hv
  obtain ⟨cs, rfl, _, _⟩ := hv
  refine ⟨f, ?_, hw⟩
  have e2 : cs.toList = (stA f).toList := e
  rw [stV, Array.ext' e2]
end Go.Proofs.Ytblnfkhaicjeaaa.Gm
namespace Go.Proofs.Ytblnfkhaicjeaaa.Gm
open Go.RowKit Go.WideShapes Go.ChangeShapes Go.ChangeAt Go.Deep Go.Proofs.Ytblnfkhaicjeaaa.Eql
set_option linter.all false

/-- A list of states that lies in memory. -/
def StRow (w : World) (a : Option Addr) (fs : List F) : Prop :=
  (∀ f ∈ fs, Wf f) ∧ (0 < fs.length → ∃ b off, a = some ⟨b, off, none⟩ ∧ b < w.heap.size ∧ ∀ j f, fs[j]? = some f → w.rangeAt b (off + j * 66) (stA f).toList)
theorem rangeAt_below {w w' : World} {b o : Nat} {L : List Value} (h : w.rangeAt b o L) (hb : Below w.heap.size w w') (hlt : b < w.heap.size) : w'.rangeAt b o L :=
  fun j v hj => (hb.cell (p := ⟨b, o + j, none⟩) hlt).trans (h j v hj)
theorem StRow.below {w w' : World} {a : Option Addr} {fs : List F} (h : StRow w a fs) (hb : Below w.heap.size w w') : StRow w' a fs :=
  ⟨h.1, fun hp => by
    obtain ⟨b, off, e, hlt, hc⟩ := h.2 hp
    exact ⟨b, off, e, Nat.lt_of_lt_of_le hlt hb.size, fun j f hf => rangeAt_below (hc j f hf) hb hlt⟩⟩

set_option maxRecDepth 100000 in
theorem open_states {H : Type} {enc : TypeId × Value → H} {W : World} {base : Nat} {spare : Nat → Bool} {held : Bool} {t : TypeId} {r : Reach} {b0 : Nat} {v : Value} {d : DataW H} {p : List MemPlace}
    (ht : Try.prog.underlying t = some (.slice 33)) (hv : Value.okWide Try.prog W r b0 t v) (h : DataW.Trod enc Try.prog W base spare held t v d p) :
    ∃ a cap, ∃ fs : List F, v = .slice a fs.length cap ∧ StRow W a fs ∧ fs.length ≤ cap ∧ cap ≤ maxLen := by
  obtain ⟨a0, len0, cap0, rfl⟩ := okWide_slice ht hv
  obtain ⟨fuel, hf⟩ := h
  have hc66 : Try.prog.cellsOf 33 = 66 := by kernel_rfl
  rcases open_slice ht hf with ⟨hcs, _⟩ | ⟨a, len, cap, m, n, D, Pl, hcs, hb, hl, hm, hmm, _, hi⟩
  · simp [Value.cells] at hcs
    obtain ⟨rfl, rfl, rfl⟩ := hcs
    exact ⟨none, 0, [], rfl, ⟨fun x hx => by simp at hx, fun h => by simp at h⟩, by simp, by simp [maxLen]⟩
  · simp [Value.cells] at hcs
    obtain ⟨rfl, rfl, rfl⟩ := hcs
    have hlm : len0 ≤ m := by rw [hmm]; split <;> omega
    have each : ∀ i, i < len0 → ∃ f : F, (∀ k, k < 66 → W.cell? (a.add (i * 66 + k)) = (stA f).toList[k]?) ∧ Wf f := by
      intro i hil
      obtain ⟨cs', hcc, ht'⟩ := hi i (by omega)
      rw [hc66] at hcc
      obtain ⟨hk, _⟩ := keyLits_of_trod 6 _ key33 _ _ _ ht'
      obtain ⟨f, e, hw⟩ := state_of_lits hk
      obtain ⟨_, hcl2, hat⟩ := World.cells?_some hcc
      refine ⟨f, fun k hk => ?_, hw⟩
      have g := hat k hk
      rw [← Go.Deep.add_add, g, e]
    obtain ⟨fs, hol, hops⟩ := I2.list_of len0 each
    subst hol
    refine ⟨some a, cap0, fs, rfl, ⟨fun x hx => ?_, fun hp => ?_⟩, hl, hm⟩
    · obtain ⟨i, hi⟩ := List.getElem?_of_mem hx
      exact (hops i x hi).2
    · obtain ⟨b, off, spot⟩ := a
      obtain ⟨x, hx⟩ : ∃ x, fs[0]? = some x := ⟨fs[0]'(by omega), by simp⟩
      have c0 := (hops 0 x hx).1 0 (by omega)
      rw [Array.getElem?_toList, stA_get _ (by omega)] at c0
      have hspot : spot = none := by simpa [Addr.add] using World.cell?_spot c0
      subst hspot
      have hadd : ∀ j, (⟨b, off, none⟩ : Addr).add j = ⟨b, off + j, none⟩ := fun j => by unfold Addr.add; split <;> simp_all
      refine ⟨b, off, rfl, ?_, fun j f hj k v hv => ?_⟩
      · have := World.block_lt_of_cell? W _ c0
        rw [hadd] at this
        exact this
      · have hk : k < 66 := by
          have := (List.getElem?_eq_some_iff.1 hv).1
          simpa [stA] using this
        have := (hops j f hj).1 k hk
        rw [hv, hadd, ← Nat.add_assoc] at this
        exact this
end Go.Proofs.Ytblnfkhaicjeaaa.Gm
namespace Go.Proofs.Ytblnfkhaicjeaaa.Gm
open Go.RowKit Go.WideShapes Go.ChangeShapes Go.ChangeAt Go.Deep Go.Proofs.Ytblnfkhaicjeaaa.Eql
set_option linter.all false

abbrev OpT := Int × Int × Int × F
def oc (o : OpT) : List Value := [.int .i64 o.1, .int .i64 o.2.1, .int .u32 o.2.2.1] ++ (stA o.2.2.2).toList
theorem oc_len (o : OpT) : (oc o).length = 69 := by simp [oc, stA]
def WfO (o : OpT) : Prop := (-9223372036854775808 ≤ o.1 ∧ o.1 ≤ 9223372036854775807) ∧ (-9223372036854775808 ≤ o.2.1 ∧ o.2.1 ≤ 9223372036854775807) ∧ (0 ≤ o.2.2.1 ∧ o.2.2.1 < 4294967296) ∧ Wf o.2.2.2
def ocv (j : Nat) (x : Int) : Value := if j = 2 then .int .u32 x else if j < 2 then .int .i64 x else cv (j - 3) x
def zO (j : Nat) : Int := if j < 3 then 0 else zF (j - 3)
theorem zcO : (List.range 69).map (fun j => ocv j (zO j)) = Try.zeroCells141.toList := by kernel_rfl
theorem keyO : Try.prog.keyTypeAt 7 141 = true := by kernel_rfl
theorem tiledO : Try.prog.tiled 7 141 = true := by kernel_rfl
theorem litsO : (Try.prog.keyLits 7 141 Try.zeroCells141.toList).isSome = true := by kernel_rfl

theorem op_of_lits {cs : List Value} {l : List Lit} (hk : Try.prog.keyLits 7 141 cs = some l) : ∃ o, cs = oc o ∧ WfO o := by
  obtain ⟨lz, hz⟩ := Option.isSome_iff_exists.1 litsO
  have e := cells_of_lits 7 _ tiledO _ _ _ hk
  have ez := cells_of_lits 7 _ tiledO _ _ _ hz
  rw [← zcO] at ez
  have hal := keyLits_alike hk hz
  have w := keyLits_wf hk
  have wz := keyLits_wf hz
  have hlen : lz.length = 69 := by
    have := congrArg List.length ez
    simpa using this.symm
  have hlen2 : l.length = 69 := by rw [hal.length, hlen]
  have each : ∀ j, j < 69 → ∃ a, l[j]? = some a ∧ cs[j]? = some (ocv j (numL a)) ∧ (-9223372036854775808 ≤ numL a ∧ numL a ≤ 9223372036854775807) ∧ (j = 2 ∨ j = 4 → 0 ≤ numL a ∧ numL a < 4294967296) := by
    intro j hj
    have ha : l[j]? = some (l[j]'(by omega)) := List.getElem?_eq_getElem (by omega)
    have hb : lz[j]? = some (lz[j]'(by omega)) := List.getElem?_eq_getElem (by omega)
    have hs := alike_get hal j _ _ ha hb
    have wa := w _ (List.mem_of_getElem? ha)
    have wb := wz _ (List.mem_of_getElem? hb)
    have hc : cs[j]? = some (l[j]'(by omega)).toCell := by rw [e, List.getElem?_map, ha]; rfl
    have hcz : some (ocv j (zO j)) = some (lz[j]'(by omega)).toCell := by
      have h1 : ((List.range 69).map (fun j => ocv j (zO j)))[j]? = some (ocv j (zO j)) := by
        rw [List.getElem?_map, List.getElem?_range hj]; rfl
      rw [← h1, ez, List.getElem?_map, hb]; rfl
    simp only [Option.some.injEq] at hcz
    refine ⟨_, ha, ?_⟩
    rw [hc]
    generalize l[j]'_ = a at *
    generalize lz[j]'_ = b at *
    clear hb ha hal w wz e ez hlen hlen2
    have u32 : ocv j (zO j) = .int .u32 (zO j) → ocv j (numL a) = .int .u32 (numL a) → some a.toCell = some (ocv j (numL a)) ∧ (-9223372036854775808 ≤ numL a ∧ numL a ≤ 9223372036854775807) ∧ (j = 2 ∨ j = 4 → 0 ≤ numL a ∧ numL a < 4294967296) := by
      intro h1 h2
      rw [h1] at hcz
      cases b <;> simp [Lit.toCell] at hcz
      obtain ⟨rfl, -⟩ := hcz
      cases a <;> simp [Lit.sameKind] at hs
      subst hs
      have bd := I2.bounds_u32 wa
      rw [h2]
      exact ⟨rfl, by simp only [numL]; omega, fun _ => bd⟩
    have i64 : ocv j (zO j) = .int .i64 (zO j) → ocv j (numL a) = .int .i64 (numL a) → ¬ (j = 2 ∨ j = 4) → some a.toCell = some (ocv j (numL a)) ∧ (-9223372036854775808 ≤ numL a ∧ numL a ≤ 9223372036854775807) ∧ (j = 2 ∨ j = 4 → 0 ≤ numL a ∧ numL a < 4294967296) := by
      intro h1 h2 h3
      rw [h1] at hcz
      cases b <;> simp [Lit.toCell] at hcz
      obtain ⟨rfl, -⟩ := hcz
      cases a <;> simp [Lit.sameKind] at hs
      subst hs
      have bd := bounds_i64 wa
      rw [h2]
      exact ⟨rfl, bd, fun h => absurd h h3⟩
    by_cases e0 : j = 2
    · subst e0; exact u32 rfl rfl
    · by_cases e1 : j < 2
      · exact i64 (by unfold ocv; rw [if_neg e0, if_pos e1]) (by unfold ocv; rw [if_neg e0, if_pos e1]) (by omega)
      · have eo : ∀ x, ocv j x = cv (j - 3) x := fun x => by unfold ocv; rw [if_neg e0, if_neg e1]
        by_cases e3 : j = 4
        · subst e3; exact u32 (by rw [eo]; exact cv_seed _) (by rw [eo]; exact cv_seed _)
        · by_cases e2 : 16 ≤ j - 3 ∧ j - 3 < 64 ∧ (j - 3 - 16) % 6 = 0
          · have ec : ∀ x, ocv j x = .bool (onB x) := fun x => by rw [eo]; unfold cv; rw [if_neg (by omega), if_pos e2]
            rw [ec] at hcz
            cases b <;> simp [Lit.toCell] at hcz
            all_goals try exact (wb : False).elim
            cases a <;> simp [Lit.sameKind] at hs
            rename_i b0 b1
            refine ⟨?_, by cases b1 <;> simp [numL], fun h => by omega⟩
            rw [ec]
            cases b1 <;> rfl
          · exact i64 (by rw [eo]; exact cv_int _ (by omega) e2) (by rw [eo]; exact cv_int _ (by omega) e2) (by omega)
  have num : ∀ j, j < 69 → ∃ x, cs[j]? = some (ocv j x) ∧ (-9223372036854775808 ≤ x ∧ x ≤ 9223372036854775807) ∧ (j = 2 ∨ j = 4 → 0 ≤ x ∧ x < 4294967296) := fun j hj => by
    obtain ⟨a, _, h⟩ := each j hj
    exact ⟨_, h⟩
  obtain ⟨x0, a0, b0, -⟩ := num 0 (by omega)
  obtain ⟨x1, a1, b1, -⟩ := num 1 (by omega)
  obtain ⟨x2, a2, -, b2⟩ := num 2 (by omega)
  refine ⟨(x0, x1, x2, fun j => match l[j + 3]? with | some a => numL a | none => 0), ?_, b0, b1, b2 (.inl rfl), fun j hj => ?_, ?_⟩
  · apply List.ext_getElem?
    intro j
    by_cases h0 : j = 0
    · subst h0; rw [a0]; rfl
    by_cases h1 : j = 1
    · subst h1; rw [a1]; rfl
    by_cases h2 : j = 2
    · subst h2; rw [a2]; rfl
    obtain ⟨i, rfl⟩ : ∃ i, j = i + 3 := ⟨j - 3, by omega⟩
    have hr : (oc (x0, x1, x2, fun j => match l[j + 3]? with | some a => numL a | none => 0))[i + 3]? = (stA (fun j => match l[j + 3]? with | some a => numL a | none => 0)).toList[i]? := by
      unfold oc
      rw [List.getElem?_append_right (by simp)]
      simp
    rw [hr]
    by_cases hj : i + 3 < 69
    · obtain ⟨a, h1, h2, _⟩ := each (i + 3) hj
      rw [h2, Array.getElem?_toList, stA_get _ (by omega)]
      simp only [h1]
      unfold ocv
      rw [if_neg (by omega), if_neg (by omega), Nat.add_sub_cancel]
    · have hl : cs.length = 69 := by rw [e]; simp [hlen2]
      rw [List.getElem?_eq_none (by omega), List.getElem?_eq_none (by simp [stA]; omega)]
  · obtain ⟨a, h1, _, h3, _⟩ := each (j + 3) (by omega)
    simp only [h1]
    exact h3
  · obtain ⟨a, h1, _, _, h4⟩ := each 4 (by omega)
    have h1' : l[1 + 3]? = some a := h1
    simp only [h1']
    exact h4 (.inr rfl)

/-- A list of operations that lies in memory. -/
def OpRow (w : World) (a : Option Addr) (os : List OpT) : Prop :=
  (∀ o ∈ os, WfO o) ∧ (0 < os.length → ∃ b off, a = some ⟨b, off, none⟩ ∧ b < w.heap.size ∧ ∀ j o, os[j]? = some o → w.rangeAt b (off + j * 69) (oc o))
theorem OpRow.below {w w' : World} {a : Option Addr} {os : List OpT} (h : OpRow w a os) (hb : Below w.heap.size w w') : OpRow w' a os :=
  ⟨h.1, fun hp => by
    obtain ⟨b, off, e, hlt, hc⟩ := h.2 hp
    exact ⟨b, off, e, Nat.lt_of_lt_of_le hlt hb.size, fun j f hf => rangeAt_below (hc j f hf) hb hlt⟩⟩

set_option maxRecDepth 100000 in
theorem ops_of_trod {H : Type} {enc : TypeId × Value → H} {W : World} {base : Nat} {spare : Nat → Bool} {held : Bool} {t : TypeId} {fuel : Nat} {v : Value} {x : DataW H × List MemPlace}
    (ht : Try.prog.underlying t = some (.slice 141)) (hf : DataW.trod enc Try.prog W base spare held fuel t [v] = some x) :
    ∃ a cap, ∃ os : List OpT, v = .slice a os.length cap ∧ OpRow W a os ∧ os.length ≤ cap ∧ cap ≤ maxLen := by
  have hc69 : Try.prog.cellsOf 141 = 69 := by kernel_rfl
  rcases open_slice ht hf with ⟨hcs, _⟩ | ⟨a, len, cap, m, n, D, Pl, hcs, hb, hl, hm, hmm, _, hi⟩
  · simp at hcs
    subst hcs
    exact ⟨none, 0, [], rfl, ⟨fun x hx => by simp at hx, fun h => by simp at h⟩, by simp, by simp [maxLen]⟩
  · simp at hcs
    subst hcs
    have hlm : len ≤ m := by rw [hmm]; split <;> omega
    have each : ∀ i, i < len → ∃ o : OpT, (∀ k, k < 69 → W.cell? (a.add (i * 69 + k)) = (oc o)[k]?) ∧ WfO o := by
      intro i hil
      obtain ⟨cs', hcc, ht'⟩ := hi i (by omega)
      rw [hc69] at hcc
      obtain ⟨hk, _⟩ := keyLits_of_trod 7 _ keyO _ _ _ ht'
      obtain ⟨f, e, hw⟩ := op_of_lits hk
      obtain ⟨_, hcl2, hat⟩ := World.cells?_some hcc
      refine ⟨f, fun k hk => ?_, hw⟩
      have g := hat k hk
      rw [← Go.Deep.add_add, g, e]
    obtain ⟨os, hol, hops⟩ := I2.list_of len each
    subst hol
    refine ⟨some a, cap, os, rfl, ⟨fun x hx => ?_, fun hp => ?_⟩, hl, hm⟩
    · obtain ⟨i, hi⟩ := List.getElem?_of_mem hx
      exact (hops i x hi).2
    · obtain ⟨b, off, spot⟩ := a
      obtain ⟨x, hx⟩ : ∃ x, os[0]? = some x := ⟨os[0]'(by omega), by simp⟩
      have c0 := (hops 0 x hx).1 0 (by omega)
      have c0' : (oc x)[0]? = some (.int .i64 x.1) := rfl
      rw [c0'] at c0
      have hspot : spot = none := by simpa [Addr.add] using World.cell?_spot c0
      subst hspot
      have hadd : ∀ j, (⟨b, off, none⟩ : Addr).add j = ⟨b, off + j, none⟩ := fun j => by unfold Addr.add; split <;> simp_all
      refine ⟨b, off, rfl, ?_, fun j f hj k v hv => ?_⟩
      · have := World.block_lt_of_cell? W _ c0
        rw [hadd] at this
        exact this
      · have hk : k < 69 := by
          have := (List.getElem?_eq_some_iff.1 hv).1
          rwa [oc_len] at this
        have := (hops j f hj).1 k hk
        rw [hv, hadd, ← Nat.add_assoc] at this
        exact this

set_option maxRecDepth 100000 in
theorem open_ops {H : Type} {enc : TypeId × Value → H} {W : World} {base : Nat} {spare : Nat → Bool} {held : Bool} {t : TypeId} {r : Reach} {b0 : Nat} {v : Value} {d : DataW H} {p : List MemPlace}
    (ht : Try.prog.underlying t = some (.slice 141)) (hv : Value.okWide Try.prog W r b0 t v) (h : DataW.Trod enc Try.prog W base spare held t v d p) :
    ∃ a cap, ∃ os : List OpT, v = .slice a os.length cap ∧ OpRow W a os ∧ os.length ≤ cap ∧ cap ≤ maxLen := by
  obtain ⟨a0, len0, cap0, rfl⟩ := okWide_slice ht hv
  obtain ⟨fuel, hf⟩ := h
  exact ops_of_trod ht hf

set_option maxRecDepth 100000 in
set_option maxHeartbeats 1000000 in
theorem open_two {H : Type} {enc : TypeId × Value → H} {W : World} {base : Nat} {spare : Nat → Bool} {held : Bool} {t : TypeId} {f0 f1 : Field} {r : Reach} {b0 : Nat} {v : Value} {d : DataW H} {p : List MemPlace}
    (ht : Try.prog.underlying t = some (.struct #[f0, f1])) (hone : oneCellFields Try.prog #[f0, f1] = true) (hc : Try.prog.cellsOf t = 2)
    (h0 : Try.prog.underlying f0.type = some (.slice 141)) (h1 : Try.prog.underlying f1.type = some (.slice 141))
    (hv : Value.okWide Try.prog W r b0 t v) (h : DataW.Trod enc Try.prog W base spare held t v d p) :
    ∃ a0 c0, ∃ os0 : List OpT, ∃ a1 c1, ∃ os1 : List OpT, v = .agg #[.slice a0 os0.length c0, .slice a1 os1.length c1] ∧ (OpRow W a0 os0 ∧ os0.length ≤ c0 ∧ c0 ≤ maxLen) ∧ (OpRow W a1 os1 ∧ os1.length ≤ c1 ∧ c1 ≤ maxLen) := by
  obtain ⟨cs, rfl, hsz⟩ := okWide_struct ht hv
  rw [hc] at hsz
  obtain ⟨fuel, hf⟩ := h
  obtain ⟨ys, n', hn', hy, hlen, hyl, hfi⟩ := DataW.trod_struct ht hf
  have each : ∀ (j : Nat) (f : Field), (#[f0, f1] : Array Field)[j]? = some f → Try.prog.underlying f.type = some (.slice 141) → ∃ a c, ∃ os : List OpT, cs[j]? = some (.slice a os.length c) ∧ OpRow W a os ∧ os.length ≤ c ∧ c ≤ maxLen := by
    intro j f hj hu
    obtain ⟨ho, hk⟩ := hone_of hone j f hj
    have hjl : j < 2 := (Array.getElem?_eq_some_iff.1 hj).1
    have h1 := hfi j f hj
    rw [ho, hk] at h1
    have hcl : (Value.cells (.agg cs)).toList.length = 2 := by simp [Value.cells, hsz]
    have hone' : ((Value.cells (.agg cs)).toList.drop j).take 1 = [cs[j]'(by omega)] := by
      rw [List.drop_eq_getElem_cons (by omega)]
      simp [Value.cells]
    rw [hone'] at h1
    have hys : ys[j]? = some (ys[j]'(by rw [hyl]; exact hjl)) := List.getElem?_eq_getElem _
    obtain ⟨a, c, os, e1, hrow, hl, hm⟩ := ops_of_trod hu (h1.trans hys)
    refine ⟨a, c, os, ?_, hrow, hl, hm⟩
    rw [← e1, Array.getElem?_eq_getElem (by omega)]
  obtain ⟨a0, c0, z0, e0, r0⟩ := each 0 f0 rfl h0
  obtain ⟨a1, c1, z1, e1, r1⟩ := each 1 f1 rfl h1
  refine ⟨a0, c0, z0, a1, c1, z1, ?_, r0, r1⟩
  congr 1
  apply Array.ext
  · simp [hsz]
  · intro i hi1 hi2
    rw [hsz] at hi1
    have g : ∀ {x : Value}, cs[i]? = some x → cs[i]'(by omega) = x := fun {x} hx => by rw [Array.getElem?_eq_getElem (by omega)] at hx; exact Option.some.inj hx
    obtain rfl | rfl : i = 0 ∨ i = 1 := by omega
    · exact g e0
    · exact g e1
end Go.Proofs.Ytblnfkhaicjeaaa.Gm
