/-
  A range over a function whose iterator hands on values that only it knows: what a round may ask of them is said by Ok. Condition: a round ends at its end or by a return.
-/
import Derived.Test.YtmceaffoffemlaaRoutU
namespace Go.Proofs.Ytmceaffoffemlaa
open Go.RowKit
set_option linter.all false

/-- It speaks of the blocks below B alone. -/
def FrB {β : Type} (B : Nat) (J : β → World → Prop) : Prop := ∀ s A C, J s A → Below B A C → J s C
theorem FrB.and {β : Type} {B : Nat} {I J : β → World → Prop} (h : FrB B I) (h' : FrB B J) : FrB B (fun s W => I s W ∧ J s W) := fun s A C hs hb => ⟨h s A C hs.1 hb, h' s A C hs.2 hb⟩
theorem frB_obj {β : Type} {B k : Nat} (o : Obj) (hk : k < B) : FrB B (fun (_ : β) W => W.heap[k]? = some o) := fun _ A C hs hb => (hb.block k hk).trans hs
theorem FrB.up {β : Type} {B B' : Nat} {J : β → World → Prop} (h : FrB B J) (hB : B ≤ B') : FrB B' J := fun s A C hs hb => h s A C hs (hb.mono hB)
theorem belowB_put {s l : Nat} (h : s ≤ l) (W : World) (o : Obj) : Below s W (W.putObj l o) := ⟨rfl, rfl, rfl, by simp, fun k hk => World.putObj_heap_other (by omega)⟩
theorem yield_say {F : Fence} {m : Nat} {P : Program} {l : Nat} {r : Loop} {args : Array Value} {W : World} {As : Act → World → Prop} {A X : World → Prop}
    (hfn : F.fn r.fn) (hl : W.heap[l]? = some (.loop r)) (hr : r.state = .ready) (hs : args.size = r.params.size)
    (ha : ∀ K : Act → World → Prop, (∀ a1 V, Below W.heap.size W V → As a1 V → K a1 V) → r.assign.wpIn (F.inRound l) m P (Exit.then K (fun _ _ _ => False)) { tmps := (r.params.zip args).foldl (fun t (p, v) => t.setIfInBounds p v) r.tmps, defers := [] } W)
    (hb : ∀ a1 V, Below W.heap.size W V → As a1 V → r.body.wpIn (F.inRound l) m P (RoundEnd (fun V => V.heap[l]? = some (.loop { r with state := .busy }) ∧ A V) (fun V => V.heap[l]? = some (.loop { r with state := .busy }) ∧ X V)) a1 (V.putObj l (.loop { r with state := .busy }))) :
    YieldAt F m P l args W fun e V =>
      (e = .returned (.bool true) ∧ ∃ U, U.heap[l]? = some (.loop { r with state := .busy }) ∧ A U ∧ V = U.putObj l (.loop { r with state := .ready, pending := none })) ∨
      (e = .returned (.bool false) ∧ ∃ U, U.heap[l]? = some (.loop { r with state := .busy }) ∧ X U ∧ V = U.putObj l (.loop { r with state := .done, pending := some .ret })) := by
  refine ⟨_, _, _, _, run_yield hl hs, roundIn_of_wpIn hfn (ha _ fun a1 V hbel has => ⟨_, run_beginRound ((hbel.block l (Array.getElem?_eq_some_iff.1 hl).1).trans hl) hr, wpIn_mono (hb a1 V hbel has) ?_⟩)⟩
  intro e _ U h
  cases e with
  | normal => exact ⟨_, _, run_endRound none h.1, .inl ⟨rfl, U, h.1, h.2, rfl⟩⟩
  | ret => exact ⟨_, _, run_endRound (some .ret) h.1, .inr ⟨rfl, U, h.1, h.2, rfl⟩⟩
  | exit id => exact h.elim
  | goto t => exact h.elim
  | panic c => exact h.elim
  | outgrown => exact h.elim

theorem range_say {α : Type} {F : Fence} {n : Nat} {P : Program} {g : Operand} {ps : Array Tmp} {assign body : Code} {Q : Exit → Act → World → Prop} {a : Act} {w : World}
    (hro : F.round = none) (h1 : 1 ≤ n) {gf : Nat} {lb : Array Value} (hg : a.eval g = .func (.func gf) #[] lb) (hFg : F.fn gf) (eg : ∀ args w, (callFunc gf args).run P w = .ok (.enter gf args) w)
    {encs : α → Array Value} {Kp : World → World → Prop} {N : Nat} {Ok : Nat → α → World → Prop} {As : Nat → α → Act → World → Prop}
    (hseq : ∀ (W1 : World) (J Jx : Nat → World → Prop), Below w.heap.size w W1 → W1.heap.size = w.heap.size + 2 → FrB (w.heap.size + 2) J → FrB (w.heap.size + 2) Jx →
      (∀ k x W, k < N → J k W → Ok k x W → YieldAt F (n - 1 - 1) P (w.heap.size + 1) (encs x) W fun e W' =>
        (e = .returned (.bool true) ∧ J (k + 1) W' ∧ Kp W W') ∨ (e = .returned (.bool false) ∧ Jx (k + 1) W' ∧ Kp W W')) → J 0 W1 →
      CallsIn F (n - 1) P gf (#[.func (.yield (w.heap.size + 1)) #[] #[]] ++ lb) W1 fun e W' => (∃ v, e = .returned v) ∧ (J N W' ∨ (∃ k, k ≤ N ∧ Jx k W')))
    (hKt : ∀ {A B C : World}, Kp A B → Kp B C → Kp A C) (hKb : ∀ (W : World) (o : Obj), Kp W (W.putObj (w.heap.size + 1) o)) (hKa : ∀ A B : World, w.heap.size ≤ A.heap.size → Below A.heap.size A B → Kp A B) (hps : ∀ x, (encs x).size = ps.size)
    (hAs : ∀ k x a' (W : World) (r : Loop) (o : Obj), As k x a' W → W.heap[w.heap.size + 1]? = some (.loop r) → As k x a' (W.putObj (w.heap.size + 1) o))
    (I Ix : Nat → World → Prop) (hI : FrB w.heap.size I) (hIx : FrB w.heap.size Ix) (h0 : I 0 w)
    (hassign : ∀ (l k : Nat) (x : α) (W : World) (K : Act → World → Prop), I k W → Ok k x W → w.heap.size ≤ W.heap.size → (∀ a' V, Below W.heap.size W V → As k x a' V → K a' V) →
      assign.wpIn (F.inRound l) (n - 1 - 1) P (Exit.then K (fun _ _ _ => False)) { tmps := (ps.zip (encs x)).foldl (fun t (p, v) => t.setIfInBounds p v) a.tmps, defers := [] } W)
    (hbody : ∀ (l k : Nat) (x : α) (a' : Act) (W : World), I k W → k < N → As k x a' W → w.heap.size ≤ W.heap.size → body.wpIn (F.inRound l) (n - 1 - 1) P
      (RoundEnd (fun V => KeepsFrom w.heap.size W V ∧ Kp W V ∧ I (k + 1) V) (fun V => KeepsFrom w.heap.size W V ∧ Kp W V ∧ Ix (k + 1) V)) a' W)
    (hdone : ∀ (D : Nat) (W : World), w.heap.size ≤ D → I N W → W.heap[D]? = some (.deferred (some [])) → Q .normal { a with defers := { target := .collected D, args := #[] } :: a.defers } W)
    (hstop : ∀ (D k : Nat) (W : World), w.heap.size ≤ D → k ≤ N → Ix k W → W.heap[D]? = some (.deferred (some [])) → Code.ret.wpIn F n P Q { a with defers := { target := .collected D, args := #[] } :: a.defers } W) :
    (Code.rangeFunc g ps assign body).wpIn F n P Q a w := by
  refine wpIn_rangeFunc fun fn hfn => ?_
  rw [hro]
  obtain ⟨s, hs⟩ : ∃ s, s = w.heap.size := ⟨_, rfl⟩
  obtain ⟨r, hr⟩ : ∃ r : Loop, r = { state := .ready, pending := none, fn, tmps := a.tmps, params := ps, assign, body, defers := s } := ⟨_, rfl⟩
  obtain ⟨V, hV⟩ : ∃ V, V = (w.alloc (.deferred (some []))).alloc (.loop r) := ⟨_, rfl⟩
  have z0 : V.heap.size = s + 2 := by rw [hV, hs]; simp
  have zl : V.heap[s + 1]? = some (.loop r) := by
    have := World.alloc_heap_new (w.alloc (.deferred (some []))) (.loop r)
    rw [World.size_alloc] at this; rw [hV, hs]; exact this
  have zd : V.heap[s]? = some (.deferred (some [])) := by
    rw [hV, hs]; exact (Below.heap_alloc _ _ _ (by simp)).trans (World.alloc_heap_new w _)
  have zb : Below w.heap.size w V := by rw [hV]; exact ((Below.refl _ w).alloc (Nat.le_refl _) _).alloc (by simp) _
  have zi : I 0 V := hI 0 w V h0 zb
  rw [← hs] at hseq hKb hKa hI hIx hdone hstop hbody hassign hAs
  refine ⟨s + 1, [{ target := .collected s, args := #[] }], V, { target := .fn (.func gf) lb, args := #[.func (.yield (s + 1)) #[] #[]] }, V, gf, #[.func (.yield (s + 1)) #[] #[]] ++ lb, V, ?_, ?_, ?_, ?_, fun _ => h1, ?_⟩
  · rw [hV, hr, hs]; exact run_enterLoop_outer _ _ _ _ _
  · simp only [resolve, hg]
    simp [go_sem]
  · intro f' hf'; simp [Target.leads] at hf'; subst hf'; exact hFg
  · simp [invoke, go_sem, eg]
  refine (hseq V (fun k W => (I k W ∧ W.heap[s + 1]? = some (.loop r)) ∧ W.heap[s]? = some (.deferred (some [])))
    (fun k W => (Ix k W ∧ W.heap[s + 1]? = some (.loop { r with state := .done, pending := some .ret })) ∧ W.heap[s]? = some (.deferred (some [])))
    (hs ▸ zb) z0 (((hI.up (by omega)).and (frB_obj _ (by omega))).and (frB_obj _ (by omega))) (((hIx.up (by omega)).and (frB_obj _ (by omega))).and (frB_obj _ (by omega))) ?_ ⟨⟨zi, zl⟩, zd⟩).mono ?_
  · rintro k x W hlen ⟨⟨i, il⟩, id⟩ hok
    have hlt : s + 1 < W.heap.size := (Array.getElem?_eq_some_iff.1 il).1
    have hy := yield_say (F := F) (m := n - 1 - 1) (P := P) (l := s + 1) (r := r) (args := encs x) (W := W) (As := As k x)
      (A := fun U => U.heap[s]? = some (.deferred (some [])) ∧ Kp W U ∧ I (k + 1) U)
      (X := fun U => U.heap[s]? = some (.deferred (some [])) ∧ Kp W U ∧ Ix (k + 1) U)
      (by rw [hr]; exact hfn) il (by rw [hr]) (by rw [hr]; exact hps x) (fun K hK => by
        have := hassign (s + 1) k x W K i hok (by omega) hK
        rw [hr]; exact this)
      (by
        intro a1 V1 hbel has
        have vl : V1.heap[s + 1]? = some (.loop r) := (hbel.block _ hlt).trans il
        have vd : V1.heap[s]? = some (.deferred (some [])) := (hbel.block _ (by omega)).trans id
        have hlt1 : s + 1 < V1.heap.size := (Array.getElem?_eq_some_iff.1 vl).1
        have bl : (V1.putObj (s + 1) (.loop { r with state := .busy })).heap[s + 1]? = some (.loop { r with state := .busy }) := World.putObj_heap_same hlt1
        have bd : (V1.putObj (s + 1) (.loop { r with state := .busy })).heap[s]? = some (.deferred (some [])) := (World.putObj_heap_other (by omega)).trans vd
        have kV : Kp W (V1.putObj (s + 1) (.loop { r with state := .busy })) := hKt (hKa W V1 (by omega) hbel) (hKb V1 _)
        have hrb : r.body = body := by rw [hr]
        have hb2 := hbody (s + 1) k x a1 _ (hI k V1 _ (hI k W V1 i (hbel.mono (by omega))) (belowB_put (l := s + 1) (Nat.le_succ s) V1 (.loop { r with state := .busy }))) hlen (hAs k x a1 V1 r _ has vl) (by simp; omega)
        rw [← hrb] at hb2
        refine wpIn_mono hb2 ?_
        intro e _ U h
        cases e with
        | normal => exact ⟨h.1.same _ _ (by omega) bl rfl, h.1.same _ _ (by omega) bd rfl, hKt kV h.2.1, h.2.2⟩
        | ret => exact ⟨h.1.same _ _ (by omega) bl rfl, h.1.same _ _ (by omega) bd rfl, hKt kV h.2.1, h.2.2⟩
        | exit id => exact h.elim
        | goto t => exact h.elim
        | panic c => exact h.elim
        | outgrown => exact h.elim)
    obtain ⟨f', t', as', bo', hrun, hR⟩ := hy
    refine ⟨f', t', as', bo', hrun, hR.mono ?_⟩
    rintro e U (⟨rfl, U1, ul, ⟨ud, uk, ui⟩, rfl⟩ | ⟨rfl, U1, ul, ⟨ud, uk, ui⟩, rfl⟩)
    · have hlt1 : s + 1 < U1.heap.size := (Array.getElem?_eq_some_iff.1 ul).1
      have er : ({ r with state := .ready, pending := none } : Loop) = r := by rw [hr]
      rw [er]
      exact .inl ⟨rfl, ⟨⟨hI _ U1 _ ui (belowB_put (l := s + 1) (Nat.le_succ s) U1 _), World.putObj_heap_same hlt1⟩, (World.putObj_heap_other (by omega)).trans ud⟩, hKt uk (hKb U1 _)⟩
    · have hlt1 : s + 1 < U1.heap.size := (Array.getElem?_eq_some_iff.1 ul).1
      exact .inr ⟨rfl, ⟨⟨hIx _ U1 _ ui (belowB_put (l := s + 1) (Nat.le_succ s) U1 _), World.putObj_heap_same hlt1⟩, (World.putObj_heap_other (by omega)).trans ud⟩, hKt uk (hKb U1 _)⟩
  · rintro e U ⟨⟨v, rfl⟩, (⟨⟨ui, ul⟩, ud⟩ | ⟨k, hk, ⟨ui, ul⟩, ud⟩)⟩
    · have hend := run_endLoop (P := P) ul (by rw [hr]; simp)
      have ep : r.pending = none := by rw [hr]
      rw [ep] at hend
      exact ⟨none, _, hend, hdone s _ (Nat.le_refl _) (hI _ U _ ui (belowB_put (l := s + 1) (Nat.le_succ s) U _)) ((World.putObj_heap_other (by omega)).trans ud)⟩
    · exact ⟨some .ret, _, run_endLoop (P := P) ul (by simp), hstop s k _ (Nat.le_refl _) hk (hIx _ U _ ui (belowB_put (l := s + 1) (Nat.le_succ s) U _)) ((World.putObj_heap_other (by omega)).trans ud)⟩
/-- A cell that reads lies in no loop's block. -/
theorem cell_put {W : World} {l : Nat} {r : Loop} {o : Obj} {p : Addr} {v : Value} (h : W.cell? p = some v) (hl : W.heap[l]? = some (.loop r)) : (W.putObj l o).cell? p = some v := by
  have hne : p.block ≠ l := fun e => by
    unfold World.cell? at h
    rw [e, hl] at h
    simp at h
  rw [← h]
  exact World.cell?_of_block (a := p) (World.putObj_heap_other hne)
end Go.Proofs.Ytmceaffoffemlaa
