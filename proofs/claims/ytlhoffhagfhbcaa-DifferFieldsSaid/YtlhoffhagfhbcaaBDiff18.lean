/-
  Texts joined: Rquiet, Rtail, Rsay, Ral, DfG. No condition.
-/
import Derived.Test.YtlhoffhagfhbcaaBDiff17
import Derived.Sort.BigQuietIn
import Derived.StillTailTactics
namespace Go.Proofs.Ytlhoffhagfhbcaa
open Go.RowKit
set_option linter.all false

def noDefer (l : List Oper) : Bool := l.all fun o => match o.op with | .defer _ => false | _ => true
theorem noDefer_spec {l : List Oper} (h : noDefer l = true) {o : Oper} (ho : o ∈ l) : ∀ c, o.op ≠ .defer c := fun c e => by
  have := List.all_eq_true.1 h o ho
  rw [e] at this
  cases this
theorem uponIn_round {F : Fence} {n : Nat} {P : Program} {o : Oper} {a : Act} {next : Act → World → Prop} {Q : Exit → Act → World → Prop} (l : Nat) {r : Result Next} (h : o.uponIn F n P a next Q r) : o.uponIn (F.inRound l) n P a next Q r := by
  cases r with
  | ok x w => cases x <;> exact h
  | halt x w => cases x <;> exact h
theorem operIn_round {F : Fence} {n : Nat} {P : Program} {o : Oper} {a : Act} {w : World} {next : Act → World → Prop} {Q : Exit → Act → World → Prop} (l : Nat) (hro : F.round = none) (hnd : ∀ c, o.op ≠ .defer c) (h : o.wpIn F n P a w next Q) : o.wpIn (F.inRound l) n P a w next Q := by
  unfold Oper.wpIn at h ⊢
  rw [hro, Oper.semAt_none] at h
  rw [Oper.semAt_eq _ _ _ hnd]
  exact ⟨h.1, uponIn_round l h.2⟩
theorem opIn_round {F : Fence} {n : Nat} {P : Program} {ops : Array Oper} {Q : Exit → Act → World → Prop} (l : Nat) (hro : F.round = none) (hnd : noDefer ops.toList = true) {i : Nat} {K K' : Act → World → Prop} (hK : ∀ a w, K a w → K' a w) {a : Act} {w : World} (h : wpOpIn F n P ops Q i K a w) : wpOpIn (F.inRound l) n P ops Q i K' a w := by
  have h := wpOpIn_mono hK h
  unfold wpOpIn at h ⊢
  cases ho : ops[i]? with
  | none => rw [ho] at h; exact h
  | some o =>
    rw [ho] at h
    dsimp only at h ⊢
    have hm : o ∈ ops.toList := by
      obtain ⟨hi, hv⟩ := Array.getElem?_eq_some_iff.1 ho
      rw [← hv]; exact Array.getElem_mem_toList hi
    split
    · rename_i hw
      rw [if_pos hw] at h
      exact operIn_round l hro (noDefer_spec hnd hm) h
    · rename_i hw
      rw [if_neg hw] at h
      exact h
theorem anyIn_round {F : Fence} {n : Nat} {P : Program} {md : Region.Mode} {ops : Array Oper} {Q : Exit → Act → World → Prop} (l : Nat) (hro : F.round = none) (hnd : noDefer ops.toList = true) : ∀ (fuel : Nat) (listed : Array Bool) (a : Act) (w : World), wpAnyIn F n P md ops Q fuel listed a w → wpAnyIn (F.inRound l) n P md ops Q fuel listed a w
  | 0, _, _, _, h => h
  | fuel + 1, _, _, _, h => ⟨h.1, fun i hi => opIn_round l hro hnd (fun a w => anyIn_round l hro hnd fuel _ a w) (h.2 i hi)⟩
theorem wpIn_region_quiet_round {n : Nat} {P : Program} {id : Nat} {Q : Exit → Act → World → Prop} {a : Act} {w : World} {l : List Oper} (lo : Nat) (hnd : noDefer l = true) (hm : P.follows .mixedOrders = true) (hB : Region.lexB .any l.toArray = true)
    (h : wpQuietIn Fence.wide n P l.toArray (fun w' => ∃ n, w' = w.drewN n) (fun a' => ∀ w', (∃ n, w' = w.drewN n) → Q .normal a' w') l a) : (Code.region id l.toArray true).wpIn (Fence.wide.inRound lo) n P Q a w := by
  refine wpIn_region_any hm (anyIn_round lo rfl (by simpa using hnd) _ _ _ _ ?_)
  simp only [Region.lexB, Bool.and_eq_true] at hB
  refine wpAnyIn_of_quiet (C := fun w' => ∃ n, w' = w.drewN n) (Q := fun a' => ∀ w', (∃ n, w' = w.drewN n) → Q .normal a' w') rfl (fun _ w' hw' h => h w' hw') _ _ _ _ ⟨1, rfl⟩ ?_
  have := wpAnyQIn_lex (F := Fence.wide) (n := n) (C := fun w' => ∃ n, w' = w.drewN n) (md := .any) hB.1 l 0 (Array.replicate l.toArray.size false) a (by simp) (by simpa using hB.2) (by simpa using h)
  simpa using this
end Go.Proofs.Ytlhoffhagfhbcaa
namespace Go.Proofs.Ytlhoffhagfhbcaa
open Go.RowKit
set_option linter.all false

section
variable {F : Fence} {n : Nat} {P : Program} {ops : Array Oper} {md : Region.Mode} {w : World}
theorem callsIn_free {f : FuncId} {args : Array Value} {R : Ending → World → Prop} (hfn : ∀ f, F.fn f) (hdp : F.depth = none) (hal : F.alive = false) (h : CallsIn Fence.wide n P f args w R) : CallsIn F n P f args w R := by
  have e : F.fn = fun _ => True := by funext f; exact propext ⟨fun _ => trivial, fun _ => hfn f⟩
  have : F = { Fence.wide with round := F.round } := by
    cases F
    simp only at e hdp hal
    subst e; subst hdp; subst hal
    rfl
  rw [this]
  exact h
theorem operIn_of_still {o : Oper} {a : Act} {K : Act → Prop} {K' : Act → World → Prop} {Q' : Exit → Act → World → Prop} (hfn : ∀ f, F.fn f) (hdp : F.depth = none) (hal : F.alive = false) (hnd : ∀ c, o.op ≠ .defer c) (h : ∀ a, K a → K' a w) (hh : o.still P a w K) : o.wpIn F n P a w K' Q' := by
  unfold Oper.still at hh
  unfold Oper.wpIn
  refine ⟨fun f _ => hfn f, ?_⟩
  rw [Oper.semAt_eq _ _ _ hnd]
  generalize (execOp a.eval o).run P w = r at *
  cases r with
  | ok x w' =>
    cases x <;> simp only [Oper.stillUpon] at hh <;> simp only [Oper.uponIn]
    case enter f args =>
      obtain ⟨rfl, v, hc, hn⟩ := hh
      refine ⟨fun hd => (by rw [hdp] at hd; cases hd), callsIn_free hfn hdp hal ((callsIn_wide (n := n - 1)).2 (hc.mono ?_))⟩
      rintro e w'' ⟨he, hw⟩
      subst he; subst hw
      exact h _ hn
    all_goals (obtain ⟨rfl, h2⟩ := hh; exact h _ h2)
  | halt x w' => simp only [Oper.stillUpon] at hh
theorem opIn_of_stOp {i : Nat} {a : Act} {K : Act → Prop} {K' : Act → World → Prop} {Q' : Exit → Act → World → Prop} (hfn : ∀ f, F.fn f) (hdp : F.depth = none) (hal : F.alive = false) (hnd : noDefer ops.toList = true) (h : ∀ a, K a → K' a w) (hh : stOp P ops w i K a) : wpOpIn F n P ops Q' i K' a w := by
  unfold stOp at hh
  unfold wpOpIn
  split
  · rename_i ho; simp only [ho] at hh; exact h _ hh
  · rename_i o ho
    simp only [ho] at hh
    have hmem : o ∈ ops.toList := by
      obtain ⟨hlt, he⟩ := Array.getElem?_eq_some_iff.1 ho
      rw [← he]
      exact Array.mem_toList_iff.2 (Array.getElem_mem hlt)
    split
    · rename_i hw; simp only [hw, if_true] at hh; exact operIn_of_still hfn hdp hal (noDefer_spec hnd hmem) h hh
    · rename_i hw; simp only [hw] at hh; exact ⟨fun f _ => hfn f, h _ hh⟩
theorem anyIn_of_head {m g : Nat} {L : Array Bool → Act → Prop} {Q' : Exit → Act → World → Prop} (hfn : ∀ f, F.fn f) (hdp : F.depth = none) (hal : F.alive = false) (hnd : noDefer ops.toList = true) (hL : ∀ listed a, L listed a → wpAnyIn F n P md ops Q' g listed a w) :
    ∀ (f : Nat) (listed : Array Bool) (a : Act), wpAnyL P md ops w m L f listed a → wpAnyIn F n P md ops Q' (f + g) listed a w
  | 0, listed, a, h => by rw [Nat.zero_add]; exact hL _ _ h
  | f + 1, listed, a, h => by
    rw [show f + 1 + g = (f + g) + 1 by omega]
    exact ⟨fun h0 => absurd h0 h.1, fun i hi => opIn_of_stOp hfn hdp hal hnd (fun a' h' => anyIn_of_head hfn hdp hal hnd hL f _ a' h') (h.2 i hi).2⟩
theorem anyIn_of_seq {Q' : Exit → Act → World → Prop} : ∀ (l : List Oper) (k : Nat) (listed : Array Bool) (a : Act) (w : World), (∀ j, l[j]? = ops[k + j]?) →
    Region.seqB md ops l.length k listed = true → wpListIn F n P ops Q' l a w → wpAnyIn F n P md ops Q' l.length listed a w
  | [], _, _, _, _, _, hB, h => ⟨by simpa [Region.seqB] using hB, h⟩
  | o :: l, k, listed, a, w, hl, hB, h => by
    have h0 : ops[k]? = some o := by simpa using (hl 0).symm
    simp only [List.length_cons, Region.seqB, Bool.and_eq_true, decide_eq_true_eq] at hB
    refine ⟨fun h1 => (by rw [hB.1] at h1; cases h1), fun i hi => ?_⟩
    rw [hB.1] at hi
    have hik : i = k := by simpa using hi
    subst hik
    have hw : wpOpIn F n P ops Q' i (wpListIn F n P ops Q' l) a w := by unfold wpOpIn; simp only [h0]; exact h
    exact wpOpIn_mono (fun a' w' h' => anyIn_of_seq l (i + 1) _ a' w' (fun j => by have := hl (j + 1); simpa [Nat.add_assoc, Nat.add_comm 1 j] using this) hB.2 h') hw
theorem wpIn_region_still_tail {id : Nat} {Q : Exit → Act → World → Prop} {a : Act} {l : List Oper} (hfn : ∀ f, F.fn f) (hdp : F.depth = none) (hal : F.alive = false) (m : Nat) (hnd : noDefer l = true) (hm : P.follows .mixedOrders = true) (hB : Region.lexTailB .any l.toArray m = true)
    (h : wpStill P l.toArray { w with drawn := w.drawn + 1 } (fun a' => wpListIn F n P l.toArray Q (l.drop m) a' { w with drawn := w.drawn + 1 }) (l.take m) a) : (Code.region id l.toArray true).wpIn F n P Q a w := by
  simp only [Region.lexTailB, Bool.and_eq_true, decide_eq_true_eq] at hB
  obtain ⟨⟨⟨⟨hsel, hn⟩, hs⟩, hc⟩, hlex⟩ := hB
  have hn' : m < l.length := by simpa using hn
  have htl : (l.take m).length = m := by simp; omega
  have hdl : (l.drop m).length = l.toArray.size - m := by simp
  have inv0 : HeadInv .any l.toArray m (Array.replicate l.toArray.size false) :=
    ⟨by simp, fun j oj _ hl => (by rw [getD_replicate_false] at hl; cases hl), fun t _ ht => getD_in (by simpa using ht) (getD_replicate_false _ _)⟩
  have H := wpAnyL_lex (md := .any) (g := l.toArray.size - m) hsel hs hc hn (l.take m) 0 _ a (fun j hj => by
    have hj' : j < m := by rw [htl] at hj; exact hj
    simp [hj']) (by simpa using htl) inv0 (by rw [htl]; exact hlex) h
  refine wpIn_region_any hm ?_
  have := anyIn_of_head (Q' := Q) (n := n) (g := l.toArray.size - m) hfn hdp hal (by simpa using hnd) (fun listed a' hL => by
    have := anyIn_of_seq (F := F) (n := n) (md := .any) (Q' := Q) (l.drop m) m listed a' { w with drawn := w.drawn + 1 } (fun j => by simp [List.getElem?_drop]) (by rw [hdl]; exact hL.1) hL.2
    rwa [hdl] at this) _ _ _ H
  rw [htl, show m + (l.toArray.size - m) = l.toArray.size by omega] at this
  exact this
end
end Go.Proofs.Ytlhoffhagfhbcaa
namespace Go.Proofs.Ytlhoffhagfhbcaa
open Go.RowKit
set_option linter.all false

/-- It speaks of the blocks below B alone. -/
def FrB {β : Type} (B : Nat) (J : β → World → Prop) : Prop := ∀ s A C, J s A → Below B A C → J s C
theorem FrB.and {β : Type} {B : Nat} {I J : β → World → Prop} (h : FrB B I) (h' : FrB B J) : FrB B (fun s W => I s W ∧ J s W) := fun s A C hs hb => ⟨h s A C hs.1 hb, h' s A C hs.2 hb⟩
theorem frB_obj {β : Type} {B k : Nat} (o : Obj) (hk : k < B) : FrB B (fun (_ : β) W => W.heap[k]? = some o) := fun _ A C hs hb => (hb.block k hk).trans hs
theorem FrB.up {β : Type} {B B' : Nat} {J : β → World → Prop} (h : FrB B J) (hB : B ≤ B') : FrB B' J := fun s A C hs hb => h s A C hs (hb.mono hB)
theorem belowB_put {s l : Nat} (h : s ≤ l) (W : World) (o : Obj) : Below s W (W.putObj l o) := ⟨rfl, rfl, rfl, by simp, fun k hk => World.putObj_heap_other (by omega)⟩
theorem yield_say {F : Fence} {m : Nat} {P : Program} {l : Nat} {r : Loop} {args : Array Value} {W : World} {As : Act → World → Prop} {A X : World → Prop}
    (hfn : F.fn r.fn) (hl : W.heap[l]? = some (.loop r)) (hr : r.state = .ready) (hs : args.size = r.params.size)
    (ha : ∀ K : Act → World → Prop, (∀ a1 V, Below W.heap.size W V → As a1 V → K a1 V) → r.assign.wpIn (F.inRound l) m P (Exit.then K (fun _ _ _ => False)) { tmps := (r.params.zip args).foldl (fun t (p, v) => t.setIfInBounds p v) r.tmps, defers := [] } W)
    (hb : ∀ a1 V, Below W.heap.size W V → As a1 V → r.body.wpIn (F.inRound l) m P (RoundEnd (fun V => V.heap[l]? = some (.loop { r with state := .busy }) ∧ A V) (fun V => V.heap[l]? = some (.loop { r with state := .busy }) ∧ X V)) a1 (V.putObj l (.loop { r with state := .busy }))) :
    YieldAt F m P l args W fun e V =>
      (e = .returned (.bool true) ∧ ∃ U, U.heap[l]? = some (.loop { r with state := .busy }) ∧ A U ∧ V = U.putObj l (.loop { r with state := .ready, pending := none })) ∨
      (e = .returned (.bool false) ∧ ∃ U, U.heap[l]? = some (.loop { r with state := .busy }) ∧ X U ∧ V = U.putObj l (.loop { r with state := .done, pending := some .ret })) := by
  refine ⟨_, _, _, _, run_yield hl hs, roundIn_of_wpIn hfn (ha _ fun a1 V hbel has => ⟨_, run_beginRound ((hbel.block l (Array.getElem?_eq_some_iff.1 hl).1).trans hl) hr, wpIn_mono (hb a1 V hbel has) ?_⟩)⟩
  intro e _ U h
  cases e with
  | normal => exact ⟨_, _, run_endRound none h.1, .inl ⟨rfl, U, h.1, h.2, rfl⟩⟩
  | ret => exact ⟨_, _, run_endRound (some .ret) h.1, .inr ⟨rfl, U, h.1, h.2, rfl⟩⟩
  | exit id => exact h.elim
  | goto t => exact h.elim
  | panic c => exact h.elim
  | outgrown => exact h.elim

theorem range_say {α : Type} {F : Fence} {n : Nat} {P : Program} {g : Operand} {ps : Array Tmp} {assign body : Code} {Q : Exit → Act → World → Prop} {a : Act} {w : World}
    (hro : F.round = none) (h1 : 1 ≤ n) {gf : Nat} {lb : Array Value} (hg : a.eval g = .func (.func gf) #[] lb) (hFg : F.fn gf) (eg : ∀ args w, (callFunc gf args).run P w = .ok (.enter gf args) w)
    {encs : α → Array Value} {Kp : World → World → Prop} {N : Nat} {Ok : Nat → α → World → Prop} {As : Nat → α → Act → World → Prop}
    (hseq : ∀ (W1 : World) (J Jx : Nat → World → Prop), Below w.heap.size w W1 → W1.heap.size = w.heap.size + 2 → FrB (w.heap.size + 2) J → FrB (w.heap.size + 2) Jx →
      (∀ k x W, k < N → J k W → Ok k x W → YieldAt F (n - 1 - 1) P (w.heap.size + 1) (encs x) W fun e W' =>
        (e = .returned (.bool true) ∧ J (k + 1) W' ∧ Kp W W') ∨ (e = .returned (.bool false) ∧ Jx (k + 1) W' ∧ Kp W W')) → J 0 W1 →
      CallsIn F (n - 1) P gf (#[.func (.yield (w.heap.size + 1)) #[] #[]] ++ lb) W1 fun e W' => (∃ v, e = .returned v) ∧ (J N W' ∨ (∃ k, k ≤ N ∧ Jx k W')))
    (hKt : ∀ {A B C : World}, Kp A B → Kp B C → Kp A C) (hKb : ∀ (W : World) (o : Obj), Kp W (W.putObj (w.heap.size + 1) o)) (hKa : ∀ A B : World, w.heap.size ≤ A.heap.size → Below A.heap.size A B → Kp A B) (hps : ∀ x, (encs x).size = ps.size)
    (hAs : ∀ k x a' (W : World) (r : Loop) (o : Obj), As k x a' W → W.heap[w.heap.size + 1]? = some (.loop r) → As k x a' (W.putObj (w.heap.size + 1) o))
    (I Ix : Nat → World → Prop) (hI : FrB w.heap.size I) (hIx : FrB w.heap.size Ix) (h0 : I 0 w)
    (hassign : ∀ (l k : Nat) (x : α) (W : World) (K : Act → World → Prop), I k W → Ok k x W → w.heap.size ≤ W.heap.size → (∀ a' V, Below W.heap.size W V → As k x a' V → K a' V) →
      assign.wpIn (F.inRound l) (n - 1 - 1) P (Exit.then K (fun _ _ _ => False)) { tmps := (ps.zip (encs x)).foldl (fun t (p, v) => t.setIfInBounds p v) a.tmps, defers := [] } W)
    (hbody : ∀ (l k : Nat) (x : α) (a' : Act) (W : World), I k W → k < N → As k x a' W → w.heap.size ≤ W.heap.size → body.wpIn (F.inRound l) (n - 1 - 1) P
      (RoundEnd (fun V => KeepsFrom w.heap.size W V ∧ Kp W V ∧ I (k + 1) V) (fun V => KeepsFrom w.heap.size W V ∧ Kp W V ∧ Ix (k + 1) V)) a' W)
    (hdone : ∀ (D : Nat) (W : World), w.heap.size ≤ D → I N W → W.heap[D]? = some (.deferred (some [])) → Q .normal { a with defers := { target := .collected D, args := #[] } :: a.defers } W)
    (hstop : ∀ (D k : Nat) (W : World), w.heap.size ≤ D → k ≤ N → Ix k W → W.heap[D]? = some (.deferred (some [])) → Code.ret.wpIn F n P Q { a with defers := { target := .collected D, args := #[] } :: a.defers } W) :
    (Code.rangeFunc g ps assign body).wpIn F n P Q a w := by
  refine wpIn_rangeFunc fun fn hfn => ?_
  rw [hro]
  obtain ⟨s, hs⟩ : ∃ s, s = w.heap.size := ⟨_, rfl⟩
  obtain ⟨r, hr⟩ : ∃ r : Loop, r = { state := .ready, pending := none, fn, tmps := a.tmps, params := ps, assign, body, defers := s } := ⟨_, rfl⟩
  obtain ⟨V, hV⟩ : ∃ V, V = (w.alloc (.deferred (some []))).alloc (.loop r) := ⟨_, rfl⟩
  have z0 : V.heap.size = s + 2 := by rw [hV, hs]; simp
  have zl : V.heap[s + 1]? = some (.loop r) := by
    have := World.alloc_heap_new (w.alloc (.deferred (some []))) (.loop r)
    rw [World.size_alloc] at this; rw [hV, hs]; exact this
  have zd : V.heap[s]? = some (.deferred (some [])) := by
    rw [hV, hs]; exact (Below.heap_alloc _ _ _ (by simp)).trans (World.alloc_heap_new w _)
  have zb : Below w.heap.size w V := by rw [hV]; exact ((Below.refl _ w).alloc (Nat.le_refl _) _).alloc (by simp) _
  have zi : I 0 V := hI 0 w V h0 zb
  rw [← hs] at hseq hKb hKa hI hIx hdone hstop hbody hassign hAs
  refine ⟨s + 1, [{ target := .collected s, args := #[] }], V, { target := .fn (.func gf) lb, args := #[.func (.yield (s + 1)) #[] #[]] }, V, gf, #[.func (.yield (s + 1)) #[] #[]] ++ lb, V, ?_, ?_, ?_, ?_, fun _ => h1, ?_⟩
  · rw [hV, hr, hs]; exact run_enterLoop_outer _ _ _ _ _
  · simp only [resolve, hg]
    simp [go_sem]
  · intro f' hf'; simp [Target.leads] at hf'; subst hf'; exact hFg
  · simp [invoke, go_sem, eg]
  refine (hseq V (fun k W => (I k W ∧ W.heap[s + 1]? = some (.loop r)) ∧ W.heap[s]? = some (.deferred (some [])))
    (fun k W => (Ix k W ∧ W.heap[s + 1]? = some (.loop { r with state := .done, pending := some .ret })) ∧ W.heap[s]? = some (.deferred (some [])))
    (hs ▸ zb) z0 (((hI.up (by omega)).and (frB_obj _ (by omega))).and (frB_obj _ (by omega))) (((hIx.up (by omega)).and (frB_obj _ (by omega))).and (frB_obj _ (by omega))) ?_ ⟨⟨zi, zl⟩, zd⟩).mono ?_
  · rintro k x W hlen ⟨⟨i, il⟩, id⟩ hok
    have hlt : s + 1 < W.heap.size := (Array.getElem?_eq_some_iff.1 il).1
    have hy := yield_say (F := F) (m := n - 1 - 1) (P := P) (l := s + 1) (r := r) (args := encs x) (W := W) (As := As k x)
      (A := fun U => U.heap[s]? = some (.deferred (some [])) ∧ Kp W U ∧ I (k + 1) U)
      (X := fun U => U.heap[s]? = some (.deferred (some [])) ∧ Kp W U ∧ Ix (k + 1) U)
      (by rw [hr]; exact hfn) il (by rw [hr]) (by rw [hr]; exact hps x) (fun K hK => by
        have := hassign (s + 1) k x W K i hok (by omega) hK
        rw [hr]; exact this)
      (by
        intro a1 V1 hbel has
        have vl : V1.heap[s + 1]? = some (.loop r) := (hbel.block _ hlt).trans il
        have vd : V1.heap[s]? = some (.deferred (some [])) := (hbel.block _ (by omega)).trans id
        have hlt1 : s + 1 < V1.heap.size := (Array.getElem?_eq_some_iff.1 vl).1
        have bl : (V1.putObj (s + 1) (.loop { r with state := .busy })).heap[s + 1]? = some (.loop { r with state := .busy }) := World.putObj_heap_same hlt1
        have bd : (V1.putObj (s + 1) (.loop { r with state := .busy })).heap[s]? = some (.deferred (some [])) := (World.putObj_heap_other (by omega)).trans vd
        have kV : Kp W (V1.putObj (s + 1) (.loop { r with state := .busy })) := hKt (hKa W V1 (by omega) hbel) (hKb V1 _)
        have hrb : r.body = body := by rw [hr]
        have hb2 := hbody (s + 1) k x a1 _ (hI k V1 _ (hI k W V1 i (hbel.mono (by omega))) (belowB_put (l := s + 1) (Nat.le_succ s) V1 (.loop { r with state := .busy }))) hlen (hAs k x a1 V1 r _ has vl) (by simp; omega)
        rw [← hrb] at hb2
        refine wpIn_mono hb2 ?_
        intro e _ U h
        cases e with
        | normal => exact ⟨h.1.same _ _ (by omega) bl rfl, h.1.same _ _ (by omega) bd rfl, hKt kV h.2.1, h.2.2⟩
        | ret => exact ⟨h.1.same _ _ (by omega) bl rfl, h.1.same _ _ (by omega) bd rfl, hKt kV h.2.1, h.2.2⟩
        | exit id => exact h.elim
        | goto t => exact h.elim
        | panic c => exact h.elim
        | outgrown => exact h.elim)
    obtain ⟨f', t', as', bo', hrun, hR⟩ := hy
    refine ⟨f', t', as', bo', hrun, hR.mono ?_⟩
    rintro e U (⟨rfl, U1, ul, ⟨ud, uk, ui⟩, rfl⟩ | ⟨rfl, U1, ul, ⟨ud, uk, ui⟩, rfl⟩)
    · have hlt1 : s + 1 < U1.heap.size := (Array.getElem?_eq_some_iff.1 ul).1
      have er : ({ r with state := .ready, pending := none } : Loop) = r := by rw [hr]
      rw [er]
      exact .inl ⟨rfl, ⟨⟨hI _ U1 _ ui (belowB_put (l := s + 1) (Nat.le_succ s) U1 _), World.putObj_heap_same hlt1⟩, (World.putObj_heap_other (by omega)).trans ud⟩, hKt uk (hKb U1 _)⟩
    · have hlt1 : s + 1 < U1.heap.size := (Array.getElem?_eq_some_iff.1 ul).1
      exact .inr ⟨rfl, ⟨⟨hIx _ U1 _ ui (belowB_put (l := s + 1) (Nat.le_succ s) U1 _), World.putObj_heap_same hlt1⟩, (World.putObj_heap_other (by omega)).trans ud⟩, hKt uk (hKb U1 _)⟩
  · rintro e U ⟨⟨v, rfl⟩, (⟨⟨ui, ul⟩, ud⟩ | ⟨k, hk, ⟨ui, ul⟩, ud⟩)⟩
    · have hend := run_endLoop (P := P) ul (by rw [hr]; simp)
      have ep : r.pending = none := by rw [hr]
      rw [ep] at hend
      exact ⟨none, _, hend, hdone s _ (Nat.le_refl _) (hI _ U _ ui (belowB_put (l := s + 1) (Nat.le_succ s) U _)) ((World.putObj_heap_other (by omega)).trans ud)⟩
    · exact ⟨some .ret, _, run_endLoop (P := P) ul (by simp), hstop s k _ (Nat.le_refl _) hk (hIx _ U _ ui (belowB_put (l := s + 1) (Nat.le_succ s) U _)) ((World.putObj_heap_other (by omega)).trans ud)⟩
/-- A cell that reads lies in no loop's block. -/
theorem cell_put {W : World} {l : Nat} {r : Loop} {o : Obj} {p : Addr} {v : Value} (h : W.cell? p = some v) (hl : W.heap[l]? = some (.loop r)) : (W.putObj l o).cell? p = some v := by
  have hne : p.block ≠ l := fun e => by
    unfold World.cell? at h
    rw [e, hl] at h
    simp at h
  rw [← h]
  exact World.cell?_of_block (a := p) (World.putObj_heap_other hne)
end Go.Proofs.Ytlhoffhagfhbcaa
namespace Go.Proofs.Ytlhoffhagfhbcaa
open Go.RowKit
set_option linter.all false

/-- It lasts where nothing that lay has turned. -/
def FrA {β : Type} (J : β → World → Prop) : Prop := ∀ s A C, J s A → Below A.heap.size A C → J s C
theorem FrA.and {β : Type} {I J : β → World → Prop} (h : FrA I) (h' : FrA J) : FrA (fun s W => I s W ∧ J s W) := fun s A C hs hb => ⟨h s A C hs.1 hb, h' s A C hs.2 hb⟩
theorem frA_obj {β : Type} {k : Nat} (o : Obj) : FrA (fun (_ : β) W => W.heap[k]? = some o) := fun _ A C hs hb => (hb.block k (lt_of_heap hs)).trans hs
theorem range_al {F : Fence} {n : Nat} {P : Program} {g : Operand} {ps : Array Tmp} {assign body : Code} {Q : Exit → Act → World → Prop} {a : Act} {w : World}
    (hro : F.round = none) (h1 : 1 ≤ n) {gf : Nat} {lb : Array Value} (hg : a.eval g = .func (.func gf) #[] lb) (hFg : F.fn gf) (eg : ∀ args w, (callFunc gf args).run P w = .ok (.enter gf args) w)
    {encs : Nat → Array Value} {Kp : World → World → Prop} {N : Nat} {As : Nat → Act → World → Prop}
    (hseq : ∀ (W1 : World) (J Jx : Nat → World → Prop), Below w.heap.size w W1 → W1.heap.size = w.heap.size + 2 → FrA J → FrA Jx →
      (∀ k W, k < N → J k W → YieldAt F (n - 1 - 1) P (w.heap.size + 1) (encs k) W fun e W' =>
        (e = .returned (.bool true) ∧ J (k + 1) W' ∧ Kp W W') ∨ (e = .returned (.bool false) ∧ Jx (k + 1) W' ∧ Kp W W')) → J 0 W1 →
      CallsIn F (n - 1) P gf (#[.func (.yield (w.heap.size + 1)) #[] #[]] ++ lb) W1 fun e W' => (∃ v, e = .returned v) ∧ (J N W' ∨ (∃ k, k ≤ N ∧ Jx k W')))
    (hKt : ∀ {A B C : World}, Kp A B → Kp B C → Kp A C) (hKb : ∀ (W : World) (o : Obj), Kp W (W.putObj (w.heap.size + 1) o)) (hKa : ∀ A B : World, w.heap.size ≤ A.heap.size → Below A.heap.size A B → Kp A B) (hps : ∀ x, (encs x).size = ps.size)
    (hAs : ∀ k a' (W : World) (r : Loop) (o : Obj), As k a' W → W.heap[w.heap.size + 1]? = some (.loop r) → As k a' (W.putObj (w.heap.size + 1) o))
    (I Ix : Nat → World → Prop) (hI : FrA I) (hIx : FrA Ix)
    (hIp : ∀ k (W : World) (r : Loop) (o : Obj), I k W → W.heap[w.heap.size + 1]? = some (.loop r) → I k (W.putObj (w.heap.size + 1) o)) (hIxp : ∀ k (W : World) (r : Loop) (o : Obj), Ix k W → W.heap[w.heap.size + 1]? = some (.loop r) → Ix k (W.putObj (w.heap.size + 1) o)) (h0 : I 0 w)
    (hassign : ∀ (l k : Nat) (W : World) (K : Act → World → Prop), k < N → I k W → w.heap.size ≤ W.heap.size → (∀ a' V, Below W.heap.size W V → As k a' V → K a' V) →
      assign.wpIn (F.inRound l) (n - 1 - 1) P (Exit.then K (fun _ _ _ => False)) { tmps := (ps.zip (encs k)).foldl (fun t (p, v) => t.setIfInBounds p v) a.tmps, defers := [] } W)
    (hbody : ∀ (l k : Nat) (a' : Act) (W : World), I k W → k < N → As k a' W → w.heap.size ≤ W.heap.size → body.wpIn (F.inRound l) (n - 1 - 1) P
      (RoundEnd (fun V => KeepsFrom w.heap.size W V ∧ Kp W V ∧ I (k + 1) V) (fun V => KeepsFrom w.heap.size W V ∧ Kp W V ∧ Ix (k + 1) V)) a' W)
    (hdone : ∀ (D : Nat) (W : World), w.heap.size ≤ D → I N W → W.heap[D]? = some (.deferred (some [])) → Q .normal { a with defers := { target := .collected D, args := #[] } :: a.defers } W)
    (hstop : ∀ (D k : Nat) (W : World), w.heap.size ≤ D → k ≤ N → Ix k W → W.heap[D]? = some (.deferred (some [])) → Code.ret.wpIn F n P Q { a with defers := { target := .collected D, args := #[] } :: a.defers } W) :
    (Code.rangeFunc g ps assign body).wpIn F n P Q a w := by
  refine wpIn_rangeFunc fun fn hfn => ?_
  rw [hro]
  obtain ⟨s, hs⟩ : ∃ s, s = w.heap.size := ⟨_, rfl⟩
  obtain ⟨r, hr⟩ : ∃ r : Loop, r = { state := .ready, pending := none, fn, tmps := a.tmps, params := ps, assign, body, defers := s } := ⟨_, rfl⟩
  obtain ⟨V, hV⟩ : ∃ V, V = (w.alloc (.deferred (some []))).alloc (.loop r) := ⟨_, rfl⟩
  have z0 : V.heap.size = s + 2 := by rw [hV, hs]; simp
  have zl : V.heap[s + 1]? = some (.loop r) := by
    have := World.alloc_heap_new (w.alloc (.deferred (some []))) (.loop r)
    rw [World.size_alloc] at this; rw [hV, hs]; exact this
  have zd : V.heap[s]? = some (.deferred (some [])) := by
    rw [hV, hs]; exact (Below.heap_alloc _ _ _ (by simp)).trans (World.alloc_heap_new w _)
  have zb : Below w.heap.size w V := by rw [hV]; exact ((Below.refl _ w).alloc (Nat.le_refl _) _).alloc (by simp) _
  have zi : I 0 V := hI 0 w V h0 zb
  rw [← hs] at hseq hKb hKa hIp hIxp hdone hstop hbody hassign hAs
  refine ⟨s + 1, [{ target := .collected s, args := #[] }], V, { target := .fn (.func gf) lb, args := #[.func (.yield (s + 1)) #[] #[]] }, V, gf, #[.func (.yield (s + 1)) #[] #[]] ++ lb, V, ?_, ?_, ?_, ?_, fun _ => h1, ?_⟩
  · rw [hV, hr, hs]; exact run_enterLoop_outer _ _ _ _ _
  · simp only [resolve, hg]
    simp [go_sem]
  · intro f' hf'; simp [Target.leads] at hf'; subst hf'; exact hFg
  · simp [invoke, go_sem, eg]
  refine (hseq V (fun k W => (I k W ∧ W.heap[s + 1]? = some (.loop r)) ∧ W.heap[s]? = some (.deferred (some [])))
    (fun k W => (Ix k W ∧ W.heap[s + 1]? = some (.loop { r with state := .done, pending := some .ret })) ∧ W.heap[s]? = some (.deferred (some [])))
    (hs ▸ zb) z0 ((hI.and (frA_obj _)).and (frA_obj _)) ((hIx.and (frA_obj _)).and (frA_obj _)) ?_ ⟨⟨zi, zl⟩, zd⟩).mono ?_
  · rintro k W hlen ⟨⟨i, il⟩, id⟩
    have hlt : s + 1 < W.heap.size := (Array.getElem?_eq_some_iff.1 il).1
    have hy := yield_say (F := F) (m := n - 1 - 1) (P := P) (l := s + 1) (r := r) (args := encs k) (W := W) (As := As k)
      (A := fun U => U.heap[s]? = some (.deferred (some [])) ∧ Kp W U ∧ I (k + 1) U)
      (X := fun U => U.heap[s]? = some (.deferred (some [])) ∧ Kp W U ∧ Ix (k + 1) U)
      (by rw [hr]; exact hfn) il (by rw [hr]) (by rw [hr]; exact hps k) (fun K hK => by
        have := hassign (s + 1) k W K hlen i (by omega) hK
        rw [hr]; exact this)
      (by
        intro a1 V1 hbel has
        have vl : V1.heap[s + 1]? = some (.loop r) := (hbel.block _ hlt).trans il
        have vd : V1.heap[s]? = some (.deferred (some [])) := (hbel.block _ (by omega)).trans id
        have hlt1 : s + 1 < V1.heap.size := (Array.getElem?_eq_some_iff.1 vl).1
        have bl : (V1.putObj (s + 1) (.loop { r with state := .busy })).heap[s + 1]? = some (.loop { r with state := .busy }) := World.putObj_heap_same hlt1
        have bd : (V1.putObj (s + 1) (.loop { r with state := .busy })).heap[s]? = some (.deferred (some [])) := (World.putObj_heap_other (by omega)).trans vd
        have kV : Kp W (V1.putObj (s + 1) (.loop { r with state := .busy })) := hKt (hKa W V1 (by omega) hbel) (hKb V1 _)
        have hrb : r.body = body := by rw [hr]
        have hb2 := hbody (s + 1) k a1 _ (hIp k V1 r (.loop { r with state := .busy }) (hI k W V1 i hbel) vl) hlen (hAs k a1 V1 r _ has vl) (by simp; omega)
        rw [← hrb] at hb2
        refine wpIn_mono hb2 ?_
        intro e _ U h
        cases e with
        | normal => exact ⟨h.1.same _ _ (by omega) bl rfl, h.1.same _ _ (by omega) bd rfl, hKt kV h.2.1, h.2.2⟩
        | ret => exact ⟨h.1.same _ _ (by omega) bl rfl, h.1.same _ _ (by omega) bd rfl, hKt kV h.2.1, h.2.2⟩
        | exit id => exact h.elim
        | goto t => exact h.elim
        | panic c => exact h.elim
        | outgrown => exact h.elim)
    obtain ⟨f', t', as', bo', hrun, hR⟩ := hy
    refine ⟨f', t', as', bo', hrun, hR.mono ?_⟩
    rintro e U (⟨rfl, U1, ul, ⟨ud, uk, ui⟩, rfl⟩ | ⟨rfl, U1, ul, ⟨ud, uk, ui⟩, rfl⟩)
    · have hlt1 : s + 1 < U1.heap.size := (Array.getElem?_eq_some_iff.1 ul).1
      have er : ({ r with state := .ready, pending := none } : Loop) = r := by rw [hr]
      rw [er]
      exact .inl ⟨rfl, ⟨⟨hIp _ U1 _ _ ui ul, World.putObj_heap_same hlt1⟩, (World.putObj_heap_other (by omega)).trans ud⟩, hKt uk (hKb U1 _)⟩
    · have hlt1 : s + 1 < U1.heap.size := (Array.getElem?_eq_some_iff.1 ul).1
      exact .inr ⟨rfl, ⟨⟨hIxp _ U1 _ _ ui ul, World.putObj_heap_same hlt1⟩, (World.putObj_heap_other (by omega)).trans ud⟩, hKt uk (hKb U1 _)⟩
  · rintro e U ⟨⟨v, rfl⟩, (⟨⟨ui, ul⟩, ud⟩ | ⟨k, hk, ⟨ui, ul⟩, ud⟩)⟩
    · have hend := run_endLoop (P := P) ul (by rw [hr]; simp)
      have ep : r.pending = none := by rw [hr]
      rw [ep] at hend
      exact ⟨none, _, hend, hdone s _ (Nat.le_refl _) (hIp _ U _ _ ui ul) ((World.putObj_heap_other (by omega)).trans ud)⟩
    · exact ⟨some .ret, _, run_endLoop (P := P) ul (by simp), hstop s k _ (Nat.le_refl _) hk (hIxp _ U _ _ ui ul) ((World.putObj_heap_other (by omega)).trans ud)⟩
/-- The same where the loop's variable is boxed: the assign part lays one block. -/
theorem range_box {F : Fence} {n : Nat} {P : Program} {g : Operand} {ps : Array Tmp} {assign body : Code} {Q : Exit → Act → World → Prop} {a : Act} {w : World}
    (hro : F.round = none) (h1 : 1 ≤ n) {gf : Nat} {lb : Array Value} (hg : a.eval g = .func (.func gf) #[] lb) (hFg : F.fn gf) (eg : ∀ args w, (callFunc gf args).run P w = .ok (.enter gf args) w)
    {encs : Nat → Array Value} {Kp : World → World → Prop} {N : Nat} {t : TypeId} {cs : Nat → Array Value} (a₁ : Nat → Nat → Act)
    (hseq : ∀ (W1 : World) (J Jx : Nat → World → Prop), Below w.heap.size w W1 → W1.heap.size = w.heap.size + 2 → FrA J → FrA Jx →
      (∀ k W, k < N → J k W → YieldAt F (n - 1 - 1) P (w.heap.size + 1) (encs k) W fun e W' =>
        (e = .returned (.bool true) ∧ J (k + 1) W' ∧ Kp W W') ∨ (e = .returned (.bool false) ∧ Jx (k + 1) W' ∧ Kp W W')) → J 0 W1 →
      CallsIn F (n - 1) P gf (#[.func (.yield (w.heap.size + 1)) #[] #[]] ++ lb) W1 fun e W' => (∃ v, e = .returned v) ∧ (J N W' ∨ (∃ k, k ≤ N ∧ Jx k W')))
    (hKt : ∀ {A B C : World}, Kp A B → Kp B C → Kp A C) (hKb : ∀ (W : World) (o : Obj), Kp W (W.putObj (w.heap.size + 1) o)) (hKa : ∀ A B : World, w.heap.size ≤ A.heap.size → Below A.heap.size A B → Kp A B) (hps : ∀ x, (encs x).size = ps.size)
    (I Ix : Nat → World → Prop) (hI : FrA I) (hIx : FrA Ix)
    (hIp : ∀ k (W : World) (r : Loop) (o : Obj), I k W → W.heap[w.heap.size + 1]? = some (.loop r) → I k (W.putObj (w.heap.size + 1) o)) (hIxp : ∀ k (W : World) (r : Loop) (o : Obj), Ix k W → W.heap[w.heap.size + 1]? = some (.loop r) → Ix k (W.putObj (w.heap.size + 1) o)) (h0 : I 0 w)
    (hassign : ∀ (l k q : Nat) (W : World) (K : Act → World → Prop), q = W.heap.size → K (a₁ k q) (W.alloc (.cells (cs k) t)) →
      assign.wpIn (F.inRound l) (n - 1 - 1) P (Exit.then K (fun _ _ _ => False)) { tmps := (ps.zip (encs k)).foldl (fun t (p, v) => t.setIfInBounds p v) a.tmps, defers := [] } W)
    (hbody : ∀ (l k q : Nat) (W : World), I k W → k < N → Blk W q t (cs k) → w.heap.size ≤ q → w.heap.size ≤ W.heap.size → body.wpIn (F.inRound l) (n - 1 - 1) P
      (RoundEnd (fun V => KeepsFrom w.heap.size W V ∧ Kp W V ∧ I (k + 1) V) (fun V => KeepsFrom w.heap.size W V ∧ Kp W V ∧ Ix (k + 1) V)) (a₁ k q) W)
    (hdone : ∀ (D : Nat) (W : World), w.heap.size ≤ D → I N W → W.heap[D]? = some (.deferred (some [])) → Q .normal { a with defers := { target := .collected D, args := #[] } :: a.defers } W)
    (hstop : ∀ (D k : Nat) (W : World), w.heap.size ≤ D → k ≤ N → Ix k W → W.heap[D]? = some (.deferred (some [])) → Code.ret.wpIn F n P Q { a with defers := { target := .collected D, args := #[] } :: a.defers } W) :
    (Code.rangeFunc g ps assign body).wpIn F n P Q a w := by
  refine range_al (encs := encs) (Kp := Kp) (N := N) (As := fun k a' W => ∃ q, a' = a₁ k q ∧ Blk W q t (cs k) ∧ w.heap.size ≤ q) hro h1 hg hFg eg hseq hKt hKb hKa hps ?_ I Ix hI hIx hIp hIxp h0 ?_ ?_ hdone hstop
  · rintro k a' W r o ⟨q, e, hb, hq⟩ hl
    exact ⟨q, e, (World.putObj_heap_other (fun e => by rw [← e] at hl; unfold Blk at hb; rw [hb] at hl; cases hl)).trans hb, hq⟩
  · intro l k W K _ _ hz hK
    exact hassign l k W.heap.size W K rfl (hK _ _ ((Below.refl _ W).alloc (Nat.le_refl _) _) ⟨_, rfl, Blk.new W _ _, hz⟩)
  · rintro l k a' W hi hk ⟨q, rfl, hb, hq⟩ hz
    exact hbody l k q W hi hk hb hq hz
end Go.Proofs.Ytlhoffhagfhbcaa
namespace Go.Proofs.Ytlhoffhagfhbcaa.Dif
open Go.RowKit Go.Proofs.Ytlhoffhagfhbcaa.Byt Go.Proofs.Ytlhoffhagfhbcaa.Gm Go.Proofs.Ytlhoffhagfhbcaa.Num
set_option linter.all false

theorem num0 : scoreW ++ numS ((0 : Nat) : Int) = { data := #[115, 99, 111, 114, 101, 32, 48] } := by
  have h : numL ((0 : Nat) : Int) = [48] := rfl
  rw [numS, h]
  rfl
theorem num1 : scoreW ++ numS ((1 : Nat) : Int) = { data := #[115, 99, 111, 114, 101, 32, 49] } := by
  have h : numL ((1 : Nat) : Int) = [49] := by
    rw [numL, show ((1 : Nat) : Int).natAbs = 1 from rfl, dg_pos (by omega), dgz_cons (by omega), show 1 / 10 = 0 from rfl, dgz_zero]
    rfl
  rw [numS, h]
  rfl
theorem fldB_names (f : F) : ∀ i, (fldB f i).map Prod.fst = nmB i
  | 0 => rfl
  | i + 1 => by rw [fldB, List.map_append, fldB_names f i, nmB]; rfl
theorem fldS_names (f : F) : ∀ i, (fldS f i).map Prod.fst = nmS i
  | 0 => by rw [fldS, fldB_names, nmS]
  | i + 1 => by rw [fldS, List.map_append, fldS_names f i, nmS]; rfl
theorem fld_names (f : F) : (fldC f 2).map Prod.fst = nmC := by
  rw [fldC, fldC, fldC, List.map_append, List.map_append, fldS_names, nmC, num0, num1, List.append_assoc]; rfl
theorem fldB_nums (f : F) : ∀ i, (fldB f i).map Prod.snd = nuB f i
  | 0 => rfl
  | i + 1 => by rw [fldB, List.map_append, fldB_nums f i, nuB]; rfl
theorem fldS_nums (f : F) : ∀ i, (fldS f i).map Prod.snd = nuS f i
  | 0 => by rw [fldS, fldB_nums, nuS]
  | i + 1 => by rw [fldS, List.map_append, fldS_nums f i, nuS]; rfl
theorem fld_nums (f : F) : (fldC f 2).map Prod.snd = nuC f := by
  rw [fldC, fldC, fldC, List.map_append, List.map_append, fldS_nums, nuC, List.append_assoc]; rfl
def nmAt (i : Nat) : ByteArray := nmC.getD i ByteArray.empty
theorem fld_get (f : F) {i : Nat} (h : i < 66) : (fldC f 2)[i]? = some (nmAt i, nth (nuC f) i) := by
  have hl : (fldC f 2).length = 66 := fldC_len f 2
  have e : (fldC f 2)[i]? = some ((fldC f 2)[i]'(by rw [hl]; exact h)) := List.getElem?_eq_getElem _
  rw [e]
  congr 1
  apply Prod.ext
  · have := congrArg (fun l => l[i]?) (fld_names f)
    simp only [List.getElem?_map, e, Option.map_some] at this
    simp [nmAt, List.getD, ← this]
  · have := congrArg (fun l => l[i]?) (fld_nums f)
    simp only [List.getElem?_map, e, Option.map_some] at this
    simp [nth, List.getD, ← this]

/-- The numbers of what is not the same, below n. -/
def dif (f g : F) (i : Nat) : Bool := decide (nth (nuC f) i ≠ nth (nuC g) i)
def dix (f g : F) (n : Nat) : List Nat := (List.range n).filter (dif f g)
theorem dix_zero (f g : F) : dix f g 0 = [] := rfl
theorem dix_yes {f g : F} {i : Nat} (h : nth (nuC f) i ≠ nth (nuC g) i) : dix f g (i + 1) = dix f g i ++ [i] := by
  rw [dix, List.range_succ, List.filter_append]; simp [dix, dif, h]
theorem dix_no {f g : F} {i : Nat} (h : nth (nuC f) i = nth (nuC g) i) : dix f g (i + 1) = dix f g i := by
  rw [dix, List.range_succ, List.filter_append]; simp [dix, dif, h]
theorem dix_pre (f g : F) (i : Nat) : ∀ d, ∃ r, dix f g (i + d) = dix f g i ++ r
  | 0 => ⟨[], by simp⟩
  | d + 1 => by
    obtain ⟨r, hr⟩ := dix_pre f g i d
    by_cases h : nth (nuC f) (i + d) = nth (nuC g) (i + d)
    · exact ⟨r, by rw [← Nat.add_assoc, dix_no h, hr]⟩
    · exact ⟨r ++ [i + d], by rw [← Nat.add_assoc, dix_yes h, hr, List.append_assoc]⟩
def dixA (f g : F) (k : Nat) : Nat := (dix f g 66).getD k 0
def dixN (f g : F) : Nat := (dix f g 66).length
theorem dix_at {f g : F} {i : Nat} (hi : i < 66) (h : nth (nuC f) i ≠ nth (nuC g) i) : (dix f g i).length < dixN f g ∧ dixA f g (dix f g i).length = i := by
  obtain ⟨r, hr⟩ := dix_pre f g (i + 1) (65 - i)
  rw [show i + 1 + (65 - i) = 66 by omega, dix_yes h] at hr
  rw [dixN, dixA, hr]
  constructor
  · simp
  · simp [List.getD]
def encP (f g : F) (k : Nat) : Array Value := #[.agg #[.string (nmAt (dixA f g k)), .int .i64 (nth (nuC f) (dixA f g k)), .int .i64 (nth (nuC g) (dixA f g k))]]

/-- What a round keeps: all but the blocks of X and rows of bytes. -/
def NoU8 (W : World) (k : Nat) : Prop := ∀ cs fz, W.heap[k]? ≠ some (.cells cs 5 fz)
def KeepX (X : Nat → Prop) (A C : World) : Prop := A.heap.size ≤ C.heap.size ∧ ∀ k, k < A.heap.size → ¬ X k → NoU8 A k → C.heap[k]? = A.heap[k]?
theorem KeepX.refl (X : Nat → Prop) (A : World) : KeepX X A A := ⟨Nat.le_refl _, fun _ _ _ _ => rfl⟩
theorem KeepX.trans {X : Nat → Prop} {A C D : World} (h : KeepX X A C) (h' : KeepX X C D) : KeepX X A D :=
  ⟨Nat.le_trans h.1 h'.1, fun k hk hx hn => by
    have e := h.2 k hk hx hn
    exact (h'.2 k (Nat.lt_of_lt_of_le hk h.1) hx (fun cs fz => by rw [e]; exact hn cs fz)).trans e⟩
theorem KeepX.of_below {X : Nat → Prop} {A C : World} (h : Below A.heap.size A C) : KeepX X A C := ⟨h.size, fun k hk _ _ => h.block k hk⟩
theorem KeepX.blk {X : Nat → Prop} {A C : World} (h : KeepX X A C) {g : Nat} {t : TypeId} {cs : Array Value} (hb : Blk A g t cs) (hx : ¬ X g) (ht : t ≠ 5) : Blk C g t cs :=
  (h.2 g hb.lt hx (fun c fz e => by unfold Blk at hb; rw [hb] at e; cases e; exact ht rfl)).trans hb
theorem KeepX.on {X : Nat → Prop} {A C : World} (h : KeepX X A C) {t : TypeId} {n m : Nat} {v : Value} {xs : List Value} (ho : On A t n v m xs) (hx : ∀ g, v.ownBlock = some g → ¬ X g) (ht : t ≠ 5) : On C t n v m xs := by
  refine ho.of_heap fun g hg => ?_
  rcases ho.2 with ⟨rfl, _⟩ | ⟨g', cap, cur, rfl, hh, _⟩
  · cases hg
  · cases hg
    exact h.2 g' (lt_of_heap hh) (hx g' rfl) (fun c fz e => by rw [hh] at e; cases e; exact ht rfl)
theorem fcs_at {W : World} {g c : Nat} {fs : List (ByteArray × Int)} {n : Nat} (h : On W 40 2 (.slice (some ⟨g, 0, none⟩) n c) n (flat fcs fs)) {i : Nat} {s : ByteArray} {x : Int} (hi : fs[i]? = some (s, x)) :
    W.cell? ⟨g, i * 2, none⟩ = some (.string s) ∧ W.cell? ⟨g, i * 2 + 1, none⟩ = some (.int .i64 x) := by
  rcases On.form h with ⟨hv, _⟩ | ⟨g', cap, hv, _, _, _, _, hc, _⟩
  · cases hv
  · cases hv
    have e0 := flat_get fcs_len fs hi (i := 0) (by omega)
    have e1 := flat_get fcs_len fs hi (i := 1) (by omega)
    exact ⟨hc _ _ (by simpa [fcs] using e0), hc _ _ (by simpa [fcs] using e1)⟩
/-- A state's fields in a slice of their own. -/
def FX (W : World) (g c : Nat) (f : F) : Prop := On W 40 2 (.slice (some ⟨g, 0, none⟩) 66 c) 66 (flat fcs (fldC f 2))
theorem mkf_form {w W : World} {v : Value} {f : F} (h : MkF w v (fldC f 2) W) : ∃ g c, v = .slice (some ⟨g, 0, none⟩) 66 c ∧ FX W g c f ∧ w.heap.size ≤ g := by
  have ho := h.out
  have hw := h.own
  rw [show (fldC f 2).length = 66 from fldC_len f 2] at ho
  rcases On.form ho with ⟨_, h0, _⟩ | ⟨g, c, rfl, _, _, how, _⟩
  · omega
  · exact ⟨g, c, rfl, ho, hw g how⟩
theorem FX.below {W V : World} {g c : Nat} {f : F} (h : FX W g c f) (hb : Below W.heap.size W V) : FX V g c f := On.below h hb (On.lt h)
theorem FX.keep {X : Nat → Prop} {W V : World} {g c : Nat} {f : F} (h : FX W g c f) (hb : KeepX X W V) (hx : ¬ X g) : FX V g c f := hb.on h (fun k hk => by cases hk; exact hx) (by decide)
theorem FX.cell {W : World} {g c : Nat} {f : F} (h : FX W g c f) {i : Nat} (hi : i < 66) : W.cell? ⟨g, i * 2, none⟩ = some (.string (nmAt i)) ∧ W.cell? ⟨g, i * 2 + 1, none⟩ = some (.int .i64 (nth (nuC f) i)) := fcs_at h (fld_get f hi)
attribute [local go_sem] Oper.semAt_some
attribute [local go_sem ↓] exec33
attribute [local go_sem] loadR_at cellsAt_drew
theorem fld_eql (W : World) (s : ByteArray) (x y : Int) : (Op.equalIn 10000 40 (.agg #[.string s, .int .i64 x]) (.agg #[.string s, .int .i64 y])).run Try.prog W = .ok (decide (x = y)) W := by
  have h : (Op.equalIn 10000 40 (.agg #[.string s, .int .i64 x]) (.agg #[.string s, .int .i64 y])).run Try.prog W = .ok (x == y) W := by
    simp [go_sem]
    split <;> simp [*]
  rw [h]
  rfl

set_option maxRecDepth 100000 in
set_option maxHeartbeats 1000000 in
theorem unlike_any (w : World) (f g : F) : Calls Try.prog 18 #[stV f, stV g] w fun e w' => e = .returned (.func (.func 61) #[] #[.pointer (some ⟨w.heap.size, 0, none⟩), .pointer (some ⟨w.heap.size + 1, 0, none⟩)]) ∧ (w.alloc (.cells (stA f) 31)).alloc (.cells (stA g) 31) = w' := by
  have hmf : ∀ (fn : Fn) (first cap : Array Value) (w : World), (Instr.makeFunc fn first cap).run Try.prog w = .ok (.func fn first cap) w := fun _ _ _ _ => rfl
  unfold stV
  generalize stA f = C
  generalize stA g = D
  go_enter Try.func18, Try.ntmps18
  go_wp2
  go_ret
  exact ⟨rfl, rfl⟩

set_option maxRecDepth 100000 in
set_option maxHeartbeats 8000000 in
theorem unlike_in (lo pa pb B : Nat) (X : Nat → Prop) (f g : F) (hf : Wf f) (hg : Wf g) (J Jx : Nat → World → Prop)
    (hY : ∀ k W1, k < dixN f g → J k W1 → YieldAt Fence.wide 7 Try.prog lo (encP f g k) W1 fun e W' =>
      (e = .returned (.bool true) ∧ J (k + 1) W' ∧ KeepX X W1 W') ∨ (e = .returned (.bool false) ∧ Jx (k + 1) W' ∧ KeepX X W1 W'))
    (W : World) (hWB : W.heap.size = B) (hJ : FrA J) (ha : SB W pa 31 f) (hb : SB W pb 31 g) (hX : ∀ k, X k → k < B) (hJ0 : J 0 W) :
    CallsIn Fence.wide 8 Try.prog 61 #[.func (.yield lo) #[] #[], .pointer (some ⟨pa, 0, none⟩), .pointer (some ⟨pb, 0, none⟩)] W fun e W' => (∃ v, e = .returned v) ∧ (J (dixN f g) W' ∨ ∃ k, k ≤ dixN f g ∧ Jx k W') := by
  refine (callsIn_wide (n := 8)).2 ?_
  subst hWB
  obtain ⟨C, LC⟩ := let_of f
  obtain ⟨D, LD⟩ := let_of g
  have hcs := LC.size
  have hds := LD.size
  have pC := Lib.hid (fun W => fields_any W f hf)
  have pD := Lib.hid (fun W => fields_any W g hg)
  unfold stV at pC pD
  rw [← LC.eq] at pC
  rw [← LD.eq] at pD
  have hA := LC.blk ha
  have hB := LD.blk hb
  have HA := Lib.hid hA
  have HB := Lib.hid hB
  have HJ := Lib.hid hJ
  have HJ0 := Lib.hid hJ0
  have HY := Lib.hid hY
  have HX := Lib.hid hX
  have d0 := Bw.drew0 W
  have HS := Lib.hid (show ∀ V, Bw W V → cellsAt V pa = C ∧ cellsAt V pb = D from fun V h => ⟨cellsAt_blk (hA.below h hA.lt), cellsAt_blk (hB.below h hB.lt)⟩)
  clear LC LD ha hb hA hB hJ hJ0 hY hX
  go_enter Try.func61, Try.ntmps61
  go_upto_region 0 with fail
  go_region_held3 (fun W => cellsAt W pa = C ∧ cellsAt W pb = D) (first | exact HS.out _ d0 | exact HS.out _ d1 | exact HS.out _ d2)
    (first
      | (go_at_call 15; with_reducible refine (pC.out _).mono ?_; rintro e w1 ⟨vx, rfl, m1⟩; have d1 : Bw W w1 := (by first | exact d0.go m1.below | fail))
      | (go_at_call 15; with_reducible refine (pD.out _).mono ?_; rintro e w2 ⟨vy, rfl, m2⟩; have d2 : Bw W w2 := (by first | exact d1.go m2.below | fail))
      | fail)
  obtain ⟨gx, cx, rfl, hx, ox⟩ := mkf_form m1
  obtain ⟨gy, cy, rfl, hy, oy⟩ := mkf_form m2
  have hx2 := hx.below m2.below
  have hj2 := HJ.out 0 W w2 HJ0.out d2
  have hz2 : W.heap.size ≤ w2.heap.size := d2.size
  have HGX := Lib.hid (show ¬ X gx from fun h => by have := HX.out gx h; simp at ox; omega)
  have HGY := Lib.hid (show ¬ X gy from fun h => by have := HX.out gy h; have := d1.size; omega)
  clear m1 m2 d0 d1 d2 ox oy HS HA HB pC pD hx hcs hds
  go_wp2_with fail
  go_loopw [14] (fun iv wr => ∃ i : Nat, i ≤ 66 ∧ iv = .int .i64 (i : Int) ∧ J (dix f g i).length wr ∧ FX wr gx cx f ∧ FX wr gy cy g ∧ W.heap.size ≤ wr.heap.size) (fun iv _ => 66 - (intOf iv).toNat)
  case atStart => exact ⟨0, by omega, rfl, hj2, hx2, hy, hz2⟩
  case round =>
    clear hj2 hx2 hy hz2
    obtain ⟨i, hi', rfl, hj, hx, hy, hz⟩ := hrel
    by_cases hlt : i < 66
    · have i1 : (0 : Int) ≤ (i : Int) := by omega
      have i2 : (i : Int) < 66 := by omega
      obtain ⟨a0, a1⟩ := hx.cell hlt
      obtain ⟨b0, b1⟩ := hy.cell hlt
      have HL := Lib.hid hlt
      obtain ⟨x, hxx⟩ : ∃ x, nth (nuC f) i = x := ⟨_, rfl⟩
      obtain ⟨y, hyy⟩ : ∃ y, nth (nuC g) i = y := ⟨_, rfl⟩
      obtain ⟨s, hss⟩ : ∃ s, nmAt i = s := ⟨_, rfl⟩
      rw [hss] at a0
      rw [hxx] at a1
      rw [hss] at b0
      rw [hyy] at b1
      obtain ⟨W4, hW4⟩ : ∃ W4, W4 = wr.alloc (.cells #[.string s, .int .i64 x] 40) := ⟨_, rfl⟩
      obtain ⟨fb, hfb⟩ : ∃ fb, fb = wr.heap.size := ⟨_, rfl⟩
      have hbl : Blk W4 fb 40 #[.string s, .int .i64 x] := by rw [hW4, hfb]; exact Blk.new _ _ _
      have hbw : Below wr.heap.size wr W4 := by rw [hW4]; exact Bw.one _ _
      have HXX := Lib.hid hxx
      have HYY := Lib.hid hyy
      have HSS := Lib.hid hss
      clear hxx hyy hss hlt
      go_upto_region 4 with fail
      rw [← hW4, ← hfb]
      clear hW4 a0 a1 b0 b1 hfb
      have hx4 := hx.below hbw
      have hy4 := hy.below hbw
      have hj4 := HJ.out _ _ _ hj hbw
      have hz4 : W.heap.size ≤ W4.heap.size := Nat.le_trans hz hbw.size
      have k0 := hbl.cell 0
      have k1 := hbl.cell 1
      simp at k0 k1
      obtain ⟨b0, b1⟩ := hy4.cell HL.out
      rw [HSS.out] at b0
      rw [HYY.out] at b1
      have hEq := fun V => fld_eql V s x y
      clear hx hy hj hz hbl hbw
      by_cases hxy : x = y
      · rw [decide_eq_true hxy] at hEq
        have HD := Lib.hid (show dix f g (i + 1) = dix f g i from dix_no (by rw [HXX.out, HYY.out, hxy]))
        clear hxy
        go_quiet (fail)
        have HJ4 := Lib.hid (HJ.out _ _ _ hj4 ⟨rfl, by simp [World.drewN], rfl, Nat.le_refl _, fun _ _ => rfl⟩ : J (dix f g i).length (W4.drewN nq))
        have HX4 := Lib.hid hx4
        have HY4 := Lib.hid hy4
        have HZ4 := Lib.hid hz4
        clear hj4 hx4 hy4 hz4 k0 k1 b0 b1 hEq
        go_wp2_with fail
        go_roundw
        case rel => exact ⟨i + 1, HL.out, by go_num, by rw [HD.out]; exact HJ4.out, HX4.out, HY4.out, HZ4.out⟩
        case measure => have := HL.out; simp [intOf]; omega
      · have hxy' := hxy
        rw [decide_eq_false hxy] at hEq
        obtain ⟨hlt, hat⟩ := dix_at (f := f) (g := g) HL.out (by rw [HXX.out, HYY.out]; exact hxy)
        have HD := Lib.hid (show (dix f g (i + 1)).length = (dix f g i).length + 1 by rw [dix_yes (by rw [HXX.out, HYY.out]; exact hxy), List.length_append]; rfl)
        have henc : encP f g (dix f g i).length = #[.agg #[.string s, .int .i64 x, .int .i64 y]] := by unfold encP; rw [hat, HXX.out, HYY.out, HSS.out]
        have HYk := Lib.hid (show ∀ W1, J (dix f g i).length W1 → YieldAt Fence.wide 7 Try.prog lo #[.agg #[.string s, .int .i64 x, .int .i64 y]] W1 fun e W' => ∃ bb, e = .returned (.bool bb) ∧ KeepX X W1 W' ∧ (if bb = true then J (dix f g (i + 1)).length W' else Jx (dix f g (i + 1)).length W') from fun W1 h => by
          have := HY.out _ W1 hlt h
          rw [henc] at this
          obtain ⟨fn, tmps, assign, body, hy, hR⟩ := this
          refine ⟨fn, tmps, assign, body, hy, RoundIn.mono hR (fun e W' h => ?_)⟩
          rcases h with ⟨rfl, h1, h2⟩ | ⟨rfl, h1, h2⟩
          · exact ⟨true, rfl, h2, by rw [HD.out]; simpa using h1⟩
          · exact ⟨false, rfl, h2, by rw [HD.out]; simpa using h1⟩)
        have HLT := Lib.hid hlt
        have HJ4 := Lib.hid (show ∀ V : World, V.heap = W4.heap → V.os = W4.os → V.tape = W4.tape → V.output = W4.output → J (dix f g i).length V from fun V h1 h2 h3 h4 => HJ.out _ _ _ hj4 ⟨h2, h3, h4, by rw [h1]; exact Nat.le_refl _, fun _ _ => by rw [h1]⟩)
        have HX4 := Lib.hid hx4
        have HY4 := Lib.hid hy4
        have HZ4 := Lib.hid hz4
        clear hxy hlt hat henc hj4 hx4 hy4 hz4
        refine (wpIn_wide (n := 8)).1 ?_
        refine wpIn_region_still_tail (fun _ => trivial) rfl rfl 18 (by kernel_rfl) (by kernel_rfl) (by kernel_rfl) ?_
        simp only [List.take_succ_cons, List.take_zero, List.drop_succ_cons, List.drop_zero]
        iterate 18 still_step
        refine wpStill_nil ?_
        change wpListIn _ _ _ _ _ _ _ (World.drew _)
        obtain ⟨fn, tmps, assign, body, hyy, hR⟩ := HYk.out W4.drew (HJ4.out _ rfl rfl rfl rfl)
        gi_wp2_with (first
          | (refine hR.mono ?_; rintro e W6 ⟨bb, rfl, hkt, hq⟩)
          | fail)
        have HX6 := Lib.hid ((show FX W4.drew gx cx f from HX4.out).keep hkt HGX.out)
        have HY6 := Lib.hid ((show FX W4.drew gy cy g from HY4.out).keep hkt HGY.out)
        have HZ6 := Lib.hid (show W.heap.size ≤ W6.heap.size from Nat.le_trans HZ4.out hkt.1)
        clear hR hkt hyy HX4 HY4 HZ4 HJ4 HYk k0 k1 b0 b1 hEq
        cases bb
        · have hq' : Jx (dix f g (i + 1)).length W6 := by simpa using hq
          clear hq
          have HQ := Lib.hid hq'
          clear hq'
          go_wp2_with fail
          refine bodyPost_ret (results_none rfl _ _ _) rfl ⟨⟨_, rfl⟩, .inr ⟨_, by have := HLT.out; have := HD.out; omega, HQ.out⟩⟩
        · have hq' : J (dix f g (i + 1)).length W6 := by simpa using hq
          clear hq
          have HQ := Lib.hid hq'
          clear hq'
          go_wp2_with fail
          exact ⟨⟨i + 1, HL.out, by simp, HQ.out, HX6.out, HY6.out, HZ6.out⟩, by have := HL.out; simp [intOf]; omega⟩
    · obtain rfl : i = 66 := by omega
      have HJE := Lib.hid (show J (dixN f g) wr from hj)
      clear hj hx hy hz hlt
      rw [show ((66 : Nat) : Int) = 66 from rfl]
      go_wp2_with fail
      refine bodyPost_end (results_none rfl _ _ _) rfl ⟨⟨_, rfl⟩, .inl HJE.out⟩
end Go.Proofs.Ytlhoffhagfhbcaa.Dif
