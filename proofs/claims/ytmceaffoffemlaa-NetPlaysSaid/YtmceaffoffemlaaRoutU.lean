/-
  A range over a function whose iterator itself ranges over another one; the last and the first index of a kind. Condition: a round ends at its end or by a return.
-/
import Derived.Test.YtmceaffoffemlaaKit
import Derived.RangeFuncNested
import Derived.RangeFuncBound
import Derived.RangeFuncCalls
import Derived.RangeFuncLeaves
import Derived.RangeFuncFrom
import Derived.RangeFuncBox
namespace Go.Proofs.Ytmceaffoffemlaa
open Go.RowKit
set_option linter.all false

/-- How a round may be left: at its end with A, by a return with X. -/
def RoundEnd (A X : World → Prop) : Exit → Act → World → Prop
  | .normal, _, W => A W
  | .ret, _, W => X W
  | _, _, _ => False

theorem yield_round {F : Fence} {m : Nat} {P : Program} {l : Nat} {r : Loop} {args : Array Value} {W : World} {a1 : Act} {A X : World → Prop}
    (hfn : F.fn r.fn) (hl : W.heap[l]? = some (.loop r)) (hr : r.state = .ready) (hs : args.size = r.params.size)
    (ha : ∀ K : Act → World → Prop, K a1 W → r.assign.wpIn (F.inRound l) m P (Exit.then K (fun _ _ _ => False)) { tmps := (r.params.zip args).foldl (fun t (p, v) => t.setIfInBounds p v) r.tmps, defers := [] } W)
    (hb : r.body.wpIn (F.inRound l) m P (RoundEnd (fun V => V.heap[l]? = some (.loop { r with state := .busy }) ∧ A V) (fun V => V.heap[l]? = some (.loop { r with state := .busy }) ∧ X V)) a1 (W.putObj l (.loop { r with state := .busy }))) :
    YieldAt F m P l args W fun e V =>
      (e = .returned (.bool true) ∧ ∃ U, U.heap[l]? = some (.loop { r with state := .busy }) ∧ A U ∧ V = U.putObj l (.loop { r with state := .ready, pending := none })) ∨
      (e = .returned (.bool false) ∧ ∃ U, U.heap[l]? = some (.loop { r with state := .busy }) ∧ X U ∧ V = U.putObj l (.loop { r with state := .done, pending := some .ret })) := by
  refine ⟨_, _, _, _, run_yield hl hs, roundIn_of_wpIn hfn (ha _ ⟨_, run_beginRound hl hr, wpIn_mono hb ?_⟩)⟩
  intro e _ U h
  cases e with
  | normal => exact ⟨_, _, run_endRound none h.1, .inl ⟨rfl, U, h.1, h.2, rfl⟩⟩
  | ret => exact ⟨_, _, run_endRound (some .ret) h.1, .inr ⟨rfl, U, h.1, h.2, rfl⟩⟩
  | exit id => exact h.elim
  | goto t => exact h.elim
  | panic c => exact h.elim
  | outgrown => exact h.elim

theorem grown_put (W : World) (l : Nat) (o : Obj) : W.grownBy (W.putObj l o) (some l) := grownBy_putObj' W l o

/-- What speaks of a block that is no cells, below B, abides what OwnFrom B asks. -/
theorem ownFrom_obj {β : Type} {B k : Nat} (o : Obj) (hk : k < B) : OwnFrom B (fun (_ : β) W => W.heap[k]? = some o) := fun _ X Y row hs hg hr =>
  (hg.block k (Array.getElem?_eq_some_iff.1 hs).1 (fun e => by have := (hr k e.symm).1; omega)).trans hs

theorem range_out {α : Type} {F : Fence} {n : Nat} {P : Program} {g : Operand} {ps : Array Tmp} {assign body : Code} {Q : Exit → Act → World → Prop} {a : Act} {w : World}
    (hro : F.round = none) (h1 : 1 ≤ n) {gf : Nat} {lb : Array Value} (hg : a.eval g = .func (.func gf) #[] lb) (hFg : F.fn gf) (eg : ∀ args w, (callFunc gf args).run P w = .ok (.enter gf args) w)
    {encs : α → Array Value} {Kp : World → World → Prop} {S Sp : List α → Prop} {N : Nat}
    (hseq : ∀ (W1 : World) (J Jx : List α → World → Prop), Below w.heap.size w W1 → W1.heap.size = w.heap.size + 2 → OwnFrom (w.heap.size + 2) J → OwnFrom (w.heap.size + 2) Jx →
      (∀ pre x W, J pre W → pre.length < N → YieldAt F (n - 1 - 1) P (w.heap.size + 1) (encs x) W fun e W' =>
        (e = .returned (.bool true) ∧ J (pre ++ [x]) W' ∧ Kp W W') ∨ (e = .returned (.bool false) ∧ Jx (pre ++ [x]) W' ∧ Kp W W')) → J [] W1 →
      CallsIn F (n - 1) P gf (#[.func (.yield (w.heap.size + 1)) #[] #[]] ++ lb) W1 fun e W' => (∃ v, e = .returned v) ∧ ((∃ xs, S xs ∧ J xs W') ∨ (∃ pre, Sp pre ∧ Jx pre W')))
    (hKt : ∀ {A B C : World}, Kp A B → Kp B C → Kp A C) (hKb : ∀ (W : World) (o : Obj), Kp W (W.putObj (w.heap.size + 1) o)) (hps : ∀ x, (encs x).size = ps.size)
    (I Ix : List α → World → Prop) (hI : OwnFrom w.heap.size I) (hIx : OwnFrom w.heap.size Ix) (h0 : I [] w) (a₁ : α → Act)
    (hassign : ∀ (l : Nat) (x : α) (W : World) (K : Act → World → Prop), K (a₁ x) W →
      assign.wpIn (F.inRound l) (n - 1 - 1) P (Exit.then K (fun _ _ _ => False)) { tmps := (ps.zip (encs x)).foldl (fun t (p, v) => t.setIfInBounds p v) a.tmps, defers := [] } W)
    (hbody : ∀ (l : Nat) (pre : List α) (x : α) (W : World), I pre W → pre.length < N → body.wpIn (F.inRound l) (n - 1 - 1) P
      (RoundEnd (fun V => KeepsFrom w.heap.size W V ∧ Kp W V ∧ I (pre ++ [x]) V) (fun V => KeepsFrom w.heap.size W V ∧ Kp W V ∧ Ix (pre ++ [x]) V)) (a₁ x) W)
    (hdone : ∀ (D : Nat) (xs : List α) (W : World), w.heap.size ≤ D → S xs → I xs W → W.heap[D]? = some (.deferred (some [])) → Q .normal { a with defers := { target := .collected D, args := #[] } :: a.defers } W)
    (hstop : ∀ (D : Nat) (pre : List α) (W : World), w.heap.size ≤ D → Sp pre → Ix pre W → W.heap[D]? = some (.deferred (some [])) → Code.ret.wpIn F n P Q { a with defers := { target := .collected D, args := #[] } :: a.defers } W) :
    (Code.rangeFunc g ps assign body).wpIn F n P Q a w := by
  refine wpIn_rangeFunc fun fn hfn => ?_
  rw [hro]
  obtain ⟨s, hs⟩ : ∃ s, s = w.heap.size := ⟨_, rfl⟩
  obtain ⟨r, hr⟩ : ∃ r : Loop, r = { state := .ready, pending := none, fn, tmps := a.tmps, params := ps, assign, body, defers := s } := ⟨_, rfl⟩
  obtain ⟨V, hV⟩ : ∃ V, V = (w.alloc (.deferred (some []))).alloc (.loop r) := ⟨_, rfl⟩
  have z0 : V.heap.size = s + 2 := by rw [hV, hs]; simp
  have zl : V.heap[s + 1]? = some (.loop r) := by
    have := World.alloc_heap_new (w.alloc (.deferred (some []))) (.loop r)
    rw [World.size_alloc] at this; rw [hV, hs]; exact this
  have zd : V.heap[s]? = some (.deferred (some [])) := by
    rw [hV, hs]; exact (Below.heap_alloc _ _ _ (by simp)).trans (World.alloc_heap_new w _)
  have zb : Below w.heap.size w V := by rw [hV]; exact ((Below.refl _ w).alloc (Nat.le_refl _) _).alloc (by simp) _
  have zi : I [] V := by rw [hV]; exact hI.alloc _ (hI.alloc _ h0)
  rw [← hs] at hseq hKb hI hIx hdone hstop hbody
  have up : ∀ {J : List α → World → Prop}, OwnFrom s J → OwnFrom (s + 2) J := fun h y A B row hy hgr hrow => h y A B row hy hgr (fun k e => ⟨by have := (hrow k e).1; omega, (hrow k e).2⟩)
  refine ⟨s + 1, [{ target := .collected s, args := #[] }], V, { target := .fn (.func gf) lb, args := #[.func (.yield (s + 1)) #[] #[]] }, V, gf, #[.func (.yield (s + 1)) #[] #[]] ++ lb, V, ?_, ?_, ?_, ?_, fun _ => h1, ?_⟩
  · rw [hV, hr, hs]; exact run_enterLoop_outer _ _ _ _ _
  · simp only [resolve, hg]
    simp [go_sem]
  · intro f' hf'; simp [Target.leads] at hf'; subst hf'; exact hFg
  · simp [invoke, go_sem, eg]
  refine (hseq V (fun pre W => (I pre W ∧ W.heap[s + 1]? = some (.loop r)) ∧ W.heap[s]? = some (.deferred (some [])))
    (fun pre W => (Ix pre W ∧ W.heap[s + 1]? = some (.loop { r with state := .done, pending := some .ret })) ∧ W.heap[s]? = some (.deferred (some [])))
    (hs ▸ zb) z0 (((up hI).and (ownFrom_obj _ (by omega))).and (ownFrom_obj _ (by omega))) (((up hIx).and (ownFrom_obj _ (by omega))).and (ownFrom_obj _ (by omega))) ?_ ⟨⟨zi, zl⟩, zd⟩).mono ?_
  · rintro pre x W ⟨⟨i, il⟩, id⟩ hlen
    have hlt : s + 1 < W.heap.size := (Array.getElem?_eq_some_iff.1 il).1
    have bl : (W.putObj (s + 1) (.loop { r with state := .busy })).heap[s + 1]? = some (.loop { r with state := .busy }) := World.putObj_heap_same hlt
    have bd : (W.putObj (s + 1) (.loop { r with state := .busy })).heap[s]? = some (.deferred (some [])) := (World.putObj_heap_other (by omega)).trans id
    have hb := hbody (s + 1) pre x _ (hI.putObj (.loop { r with state := .busy }) i (by omega) il rfl) hlen
    have hy := yield_round (F := F) (m := n - 1 - 1) (P := P) (l := s + 1) (r := r) (args := encs x) (W := W) (a1 := a₁ x)
      (A := fun U => U.heap[s]? = some (.deferred (some [])) ∧ Kp (W.putObj (s + 1) (.loop { r with state := .busy })) U ∧ I (pre ++ [x]) U)
      (X := fun U => U.heap[s]? = some (.deferred (some [])) ∧ Kp (W.putObj (s + 1) (.loop { r with state := .busy })) U ∧ Ix (pre ++ [x]) U)
      (by rw [hr]; exact hfn) il (by rw [hr]) (by rw [hr]; exact hps x) (fun K hK => by rw [hr]; exact hassign _ x W K hK)
      (by
        have hrb : r.body = body := by rw [hr]
        have hb2 := hb
        rw [← hrb] at hb2
        refine wpIn_mono hb2 ?_
        intro e _ U h
        cases e with
        | normal => exact ⟨h.1.same _ _ (by omega) bl rfl, h.1.same _ _ (by omega) bd rfl, h.2⟩
        | ret => exact ⟨h.1.same _ _ (by omega) bl rfl, h.1.same _ _ (by omega) bd rfl, h.2⟩
        | exit id => exact h.elim
        | goto t => exact h.elim
        | panic c => exact h.elim
        | outgrown => exact h.elim)
    obtain ⟨f', t', as', bo', hrun, hR⟩ := hy
    refine ⟨f', t', as', bo', hrun, hR.mono ?_⟩
    rintro e U (⟨rfl, U1, ul, ⟨ud, uk, ui⟩, rfl⟩ | ⟨rfl, U1, ul, ⟨ud, uk, ui⟩, rfl⟩)
    · have hlt1 : s + 1 < U1.heap.size := (Array.getElem?_eq_some_iff.1 ul).1
      have er : ({ r with state := .ready, pending := none } : Loop) = r := by rw [hr]
      rw [er]
      exact .inl ⟨rfl, ⟨⟨hI.putObj _ ui (by omega) ul rfl, World.putObj_heap_same hlt1⟩, (World.putObj_heap_other (by omega)).trans ud⟩, hKt (hKt (hKb W _) uk) (hKb U1 _)⟩
    · have hlt1 : s + 1 < U1.heap.size := (Array.getElem?_eq_some_iff.1 ul).1
      exact .inr ⟨rfl, ⟨⟨hIx.putObj _ ui (by omega) ul rfl, World.putObj_heap_same hlt1⟩, (World.putObj_heap_other (by omega)).trans ud⟩, hKt (hKt (hKb W _) uk) (hKb U1 _)⟩
  · rintro e U ⟨⟨v, rfl⟩, (⟨xs, hS, ⟨ui, ul⟩, ud⟩ | ⟨pre, hSp, ⟨ui, ul⟩, ud⟩)⟩
    · have hend := run_endLoop (P := P) ul (by rw [hr]; simp)
      have ep : r.pending = none := by rw [hr]
      rw [ep] at hend
      exact ⟨none, _, hend, hdone s xs _ (Nat.le_refl _) hS (hI.putObj _ ui (by omega) ul rfl) ((World.putObj_heap_other (by omega)).trans ud)⟩
    · exact ⟨some .ret, _, run_endLoop (P := P) ul (by simp), hstop s pre _ (Nat.le_refl _) hSp (hIx.putObj _ ui (by omega) ul rfl) ((World.putObj_heap_other (by omega)).trans ud)⟩

theorem calls_of_wp_marks {P : Program} {f : FuncId} {fn : Func} {c : Code} {args : Array Value} {w : World} {R : Ending → World → Prop} (n : Nat)
    (hf : P.funcs[f]? = some fn) (hb : fn.body = some c)
    (h : c.wp P (bodyPostM Fence.wide n P fn R) { tmps := args ++ Array.replicate (fn.ntmps - args.size) undef, defers := [] } w) : Calls P f args w R :=
  (callsIn_wide (n := n)).1 (callsIn_of_wp_marks hf hb trivial (wpIn_wide.2 h) rfl)
/-- At the wide fence a round's contract holds at any depth. -/
theorem yield_wide {m m' : Nat} {P : Program} {l : Nat} {args : Array Value} {W : World} {R : Ending → World → Prop} (h : YieldAt Fence.wide m P l args W R) : YieldAt Fence.wide m' P l args W R := by
  obtain ⟨fn, tmps, assign, body, hy, hR⟩ := h
  exact ⟨fn, tmps, assign, body, hy, hR.1, fun c cs _ => hR.2 c cs (room_wide _)⟩
end Go.Proofs.Ytmceaffoffemlaa
namespace Go.Proofs.Ytmceaffoffemlaa
def IsLast (p : Nat → Prop) (v : Nat → Int) (lo hi : Nat) (L : Int) : Prop :=
  (L = -1 ∧ ∀ j, lo ≤ j → j < hi → ¬ p j) ∨ ∃ j, lo ≤ j ∧ j < hi ∧ p j ∧ L = v j ∧ ∀ i, j < i → i < hi → ¬ p i
def IsFirst (p : Nat → Prop) (v : Nat → Int) (lo hi : Nat) (L : Int) : Prop :=
  (L = -1 ∧ ∀ j, lo ≤ j → j < hi → ¬ p j) ∨ ∃ j, lo ≤ j ∧ j < hi ∧ p j ∧ L = v j ∧ ∀ i, lo ≤ i → i < j → ¬ p i
section
variable {p : Nat → Prop} {v : Nat → Int} {lo hi j : Nat} {L M : Int}
theorem IsLast.none (h : hi ≤ lo) : IsLast p v lo hi (-1) := .inl ⟨rfl, fun j a b => by omega⟩
theorem IsFirst.none (h : hi ≤ lo) : IsFirst p v lo hi (-1) := .inl ⟨rfl, fun j a b => by omega⟩
theorem IsLast.down_no (h : IsLast p v (j + 1) hi L) (hp : ¬ p j) : IsLast p v j hi L := by
  rcases h with ⟨rfl, h⟩ | ⟨k, h1, h2, h3, h4, h5⟩
  · refine .inl ⟨rfl, fun i a b => ?_⟩
    by_cases e : i = j
    · subst e; exact hp
    · exact h i (by omega) b
  · exact .inr ⟨k, by omega, h2, h3, h4, h5⟩
theorem IsLast.down_yes (hv : ∀ i k, i < k → v i < v k) (h0 : ∀ i, 0 ≤ v i) (h : IsLast p v (j + 1) hi L) (hp : p j) (hj : j < hi) : IsLast p v j hi (if L < v j then v j else L) := by
  rcases h with ⟨rfl, h⟩ | ⟨k, h1, h2, h3, rfl, h5⟩
  · rw [if_pos (by have := h0 j; omega)]
    exact .inr ⟨j, Nat.le_refl _, hj, hp, rfl, fun i a b => h i (by omega) b⟩
  · rw [if_neg (by have := hv j k (by omega); omega)]
    exact .inr ⟨k, by omega, h2, h3, rfl, h5⟩
theorem IsFirst.down_no (h : IsFirst p v (j + 1) hi L) (hp : ¬ p j) : IsFirst p v j hi L := by
  rcases h with ⟨rfl, h⟩ | ⟨k, h1, h2, h3, h4, h5⟩
  · refine .inl ⟨rfl, fun i a b => ?_⟩
    by_cases e : i = j
    · subst e; exact hp
    · exact h i (by omega) b
  · refine .inr ⟨k, by omega, h2, h3, h4, fun i a b => ?_⟩
    by_cases e : i = j
    · subst e; exact hp
    · exact h5 i (by omega) b
theorem IsFirst.down_yes (hp : p j) (hj : j < hi) : IsFirst p v j hi (v j) := .inr ⟨j, Nat.le_refl _, hj, hp, rfl, fun i a b => by omega⟩
theorem IsLast.up_no (h : IsLast p v lo j L) (hp : ¬ p j) : IsLast p v lo (j + 1) L := by
  rcases h with ⟨rfl, h⟩ | ⟨k, h1, h2, h3, h4, h5⟩
  · refine .inl ⟨rfl, fun i a b => ?_⟩
    by_cases e : i = j
    · subst e; exact hp
    · exact h i a (by omega)
  · refine .inr ⟨k, h1, by omega, h3, h4, fun i a b => ?_⟩
    by_cases e : i = j
    · subst e; exact hp
    · exact h5 i a (by omega)
theorem IsLast.up_yes (hp : p j) (hj : lo ≤ j) : IsLast p v lo (j + 1) (v j) := .inr ⟨j, hj, by omega, hp, rfl, fun i a b => by omega⟩
theorem IsFirst.up_no (h : IsFirst p v lo j L) (hp : ¬ p j) : IsFirst p v lo (j + 1) L := by
  rcases h with ⟨rfl, h⟩ | ⟨k, h1, h2, h3, h4, h5⟩
  · refine .inl ⟨rfl, fun i a b => ?_⟩
    by_cases e : i = j
    · subst e; exact hp
    · exact h i a (by omega)
  · exact .inr ⟨k, h1, by omega, h3, h4, h5⟩
theorem IsFirst.up_first (h0 : ∀ i, 0 ≤ v i) (h : IsFirst p v lo j L) (hL : L < 0) (hp : p j) (hj : lo ≤ j) : IsFirst p v lo (j + 1) (v j) := by
  rcases h with ⟨rfl, h⟩ | ⟨k, h1, h2, h3, rfl, h5⟩
  · exact .inr ⟨j, hj, by omega, hp, rfl, fun i a b => h i a b⟩
  · have := h0 k; omega
theorem IsFirst.up_had (h : IsFirst p v lo j L) (hL : ¬ L < 0) : IsFirst p v lo (j + 1) L := by
  rcases h with ⟨rfl, h⟩ | ⟨k, h1, h2, h3, rfl, h5⟩
  · omega
  · exact .inr ⟨k, h1, by omega, h3, rfl, h5⟩
theorem IsLast.same (h : IsLast p v lo hi L) (h' : IsLast p v lo hi M) : L = M := by
  rcases h with ⟨rfl, h⟩ | ⟨k, h1, h2, h3, rfl, h5⟩ <;> rcases h' with ⟨rfl, h'⟩ | ⟨k', h1', h2', h3', rfl, h5'⟩
  · rfl
  · exact absurd h3' (h _ h1' h2')
  · exact absurd h3 (h' _ h1 h2)
  · rcases Nat.lt_trichotomy k k' with e | e | e
    · exact absurd h3' (h5 _ e h2')
    · rw [e]
    · exact absurd h3 (h5' _ e h2)
theorem IsFirst.same (h : IsFirst p v lo hi L) (h' : IsFirst p v lo hi M) : L = M := by
  rcases h with ⟨rfl, h⟩ | ⟨k, h1, h2, h3, rfl, h5⟩ <;> rcases h' with ⟨rfl, h'⟩ | ⟨k', h1', h2', h3', rfl, h5'⟩
  · rfl
  · exact absurd h3' (h _ h1' h2')
  · exact absurd h3 (h' _ h1 h2)
  · rcases Nat.lt_trichotomy k k' with e | e | e
    · exact absurd h3 (h5' _ h1 e)
    · rw [e]
    · exact absurd h3' (h5 _ h1' e)
end
end Go.Proofs.Ytmceaffoffemlaa
