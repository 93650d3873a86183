/-
  Texts joined: Rqtail, DfH. No condition.
-/
import Derived.Test.YtlhoffhagfhbcaaBDiff18
import Derived.StillTail
import Derived.Lib.QuietBelow
namespace Go.Proofs.Ytlhoffhagfhbcaa
open Go.RowKit Go.Sort
set_option linter.all false

/-- The head's shape: no guards, each waits for earlier ones alone; the tail comes last, in a row. -/
def backB (l : List Oper) (n : Nat) : Bool := (List.range n).all fun j => match l[j]? with
  | some o => o.guard.isNone && o.after.all fun e => !Region.binds .any e || decide (e.on < j)
  | none => false
def endL (l : List Oper) (n : Nat) : Array Bool := (List.replicate n true ++ List.replicate (l.length - n) false).toArray
def qtailB (l : List Oper) (n : Nat) : Bool :=
  backB l n && decide (n < l.length) && Region.sinkB .any l.toArray n && Region.chainB .any l.toArray n && Region.lexB .any (l.take n).toArray && Region.seqB .any l.toArray (l.length - n) n (endL l n)
theorem backB_at {l : List Oper} {n : Nat} (h : backB l n = true) {j : Nat} (hj : j < n) : ∃ o, l[j]? = some o ∧ o.guard = none ∧ ∀ e ∈ o.after, Region.binds .any e = true → e.on < j := by
  have h1 := List.all_eq_true.1 h j (List.mem_range.2 hj)
  split at h1
  · rename_i o ho
    simp only [Bool.and_eq_true, Option.isNone_iff_eq_none] at h1
    refine ⟨o, ho, h1.1, fun e he hb => ?_⟩
    have h2 := Array.all_eq_true'.1 h1.2 e he
    simpa [hb] using h2
  · cases h1

section
variable {P : Program} {Q : Exit → Act → World → Prop} {C : World → Prop}
theorem any_more {md : Region.Mode} {ops : Array Oper} : ∀ (g : Nat) (listed : Array Bool) (a : Act) (w : World), wpAny P md ops Q g listed a w → wpAny P md ops Q (g + 1) listed a w
  | 0, _, _, _, h => ⟨fun _ => h.2, fun i hi => by rw [h.1] at hi; cases hi⟩
  | g + 1, _, _, _, h => ⟨h.1, fun i hi => wpOp_mono (fun a' w' h' => any_more g _ a' w' h') (h.2 i hi)⟩
theorem any_add {md : Region.Mode} {ops : Array Oper} {g : Nat} {listed : Array Bool} {a : Act} {w : World} (h : wpAny P md ops Q g listed a w) : ∀ k, wpAny P md ops Q (k + g) listed a w
  | 0 => by rw [Nat.zero_add]; exact h
  | k + 1 => by rw [show k + 1 + g = (k + g) + 1 by omega]; exact any_more _ _ _ _ (any_add h k)

/-- The head's own list of what has come up. -/
def Sync (n : Nat) (l0 listed : Array Bool) : Prop := l0.size = n ∧ ∀ j, j < n → ∀ b, l0.getD j b = listed.getD j b
theorem Sync.set {n i : Nat} {l0 listed : Array Bool} (h : Sync n l0 listed) (hs : n ≤ listed.size) (hi : i < n) : Sync n (l0.setIfInBounds i true) (listed.setIfInBounds i true) := by
  refine ⟨by simp [h.1], fun j hj b => ?_⟩
  by_cases e : i = j
  · subst e
    have h1 : i < l0.size := by rw [h.1]; exact hi
    have h2 : i < listed.size := by omega
    simp [h1, h2]
  · rw [getD_set_ne b e, getD_set_ne b e]; exact h.2 j hj b
theorem getD_take {l : List Oper} {n j : Nat} (h : j < n) : (l.take n).toArray[j]? = l.toArray[j]? := by simp [h]
theorem ready_head {l : List Oper} {n i : Nat} {l0 listed : Array Bool} (hb : backB l n = true) (hs : Sync n l0 listed) (hi : i < n) : i ∈ Region.ready .any l.toArray listed ↔ i ∈ Region.ready .any (l.take n).toArray l0 := by
  obtain ⟨o, ho, -, he⟩ := backB_at hb hi
  rw [mem_ready, mem_ready]
  refine and_congr (by rw [hs.2 i hi true]) ?_
  rw [getD_take hi]
  refine exists_congr fun oi => and_congr_right fun ho' => ?_
  have : oi = o := by
    rw [List.getElem?_toArray, ho] at ho'
    exact (Option.some.inj ho').symm
  subst this
  refine forall_congr' fun e => forall_congr' fun hm => forall_congr' fun hbd => ?_
  rw [hs.2 e.on (by have := he e hm hbd; omega) false]
/-- What has not come up, the least one: it may come up. -/
theorem least_ready {l : List Oper} {n : Nat} {listed : Array Bool} (hb : backB l n = true) (hs : n ≤ listed.size) (hun : ∃ j, j < n ∧ listed.getD j true = false) : ∃ i, i < n ∧ listed.getD i true = false ∧ i ∈ Region.ready .any l.toArray listed := by
  obtain ⟨j, hj, hl⟩ := hun
  induction j using Nat.strongRecOn with
  | _ j ih =>
    by_cases hex : ∃ k, k < j ∧ listed.getD k true = false
    · obtain ⟨k, hk, hkl⟩ := hex
      exact ih k hk (by omega) hkl
    · obtain ⟨o, ho, -, he⟩ := backB_at hb hj
      refine ⟨j, hj, hl, mem_ready.2 ⟨hl, o, by simpa using ho, fun e hm hbd => ?_⟩⟩
      have hlt := he e hm hbd
      have h1 : e.on < listed.size := by omega
      have h2 : listed.getD e.on true ≠ false := fun h => hex ⟨e.on, hlt, h⟩
      simp only [Array.getD_eq_getD_getElem?, Array.getElem?_eq_getElem h1, Option.getD_some] at h2 ⊢
      simpa using h2
theorem head_any {l : List Oper} {n : Nat} {Qh : Act → Prop} (hB : qtailB l n = true) (hQ : ∀ a w, C w → Qh a → wpList P l.toArray Q (l.drop n) a w) : ∀ (f : Nat) (l0 listed : Array Bool) (a : Act) (w : World), HeadInv .any l.toArray n listed → Sync n l0 listed → C w →
    wpAnyQ P .any (l.take n).toArray C Qh f l0 a → wpAny P .any l.toArray Q (f + (l.length - n)) listed a w := by
  simp only [qtailB, Bool.and_eq_true, decide_eq_true_eq] at hB
  obtain ⟨⟨⟨⟨⟨hb, hn⟩, hsk⟩, hch⟩, -⟩, hseq⟩ := hB
  have hdl : (l.drop n).length = l.length - n := by simp
  have hend : ∀ (l0 listed : Array Bool) (a : Act) (w : World), HeadInv .any l.toArray n listed → (¬ ∃ j, j < n ∧ listed.getD j true = false) → C w → Qh a → wpAny P .any l.toArray Q (l.length - n) listed a w := by
    intro l0 listed a w inv hall hC hq
    have hsz : listed.size = l.length := by simpa using inv.size
    have e : listed = endL l n := by
      apply Array.ext
      · simp [endL, hsz]; omega
      · intro j h1 h2
        by_cases hj : j < n
        · have : listed.getD j true ≠ false := fun h => hall ⟨j, hj, h⟩
          simp only [Array.getD_eq_getD_getElem?, Array.getElem?_eq_getElem h1, Option.getD_some] at this
          simp [endL, hj]
          simpa using this
        · have := inv.tail j (by omega) (by simpa [hsz] using h1)
          simp only [Array.getD_eq_getD_getElem?, Array.getElem?_eq_getElem h1, Option.getD_some] at this
          rw [this]
          simp [endL, List.getElem_append, hj]
    have := wpAny_of_seq (md := .any) (Q' := Q) (P := P) (ops := l.toArray) (l.drop n) n listed a w (fun j => by simp [List.getElem?_drop]) (by rw [hdl, e]; exact hseq) (hQ a w hC hq)
    rwa [hdl] at this
  intro f
  induction f with
  | zero =>
    intro l0 listed a w inv hs hC h
    rw [Nat.zero_add]
    refine hend l0 listed a w inv (fun hun => ?_) hC h.2
    have hsz : listed.size = l.length := by simpa using inv.size
    obtain ⟨i, hi, -, hr⟩ := least_ready hb (by omega) hun
    have := (ready_head hb hs hi).1 hr
    rw [h.1] at this
    cases this
  | succ f ih =>
    intro l0 listed a w inv hs hC h
    have hsz : listed.size = l.length := by simpa using inv.size
    by_cases hun : ∃ j, j < n ∧ listed.getD j true = false
    · obtain ⟨i, hi, hil, hr⟩ := least_ready hb (by omega) hun
      rw [show f + 1 + (l.length - n) = (f + (l.length - n)) + 1 by omega]
      refine ⟨fun h0 => (by rw [h0] at hr; cases hr), fun j hj => ?_⟩
      have hjn : j < n := by
        rcases Nat.lt_or_ge j n with h' | h'
        · exact h'
        · exact absurd hj (tail_waits hsk hch (by simpa using hn) inv _ i rfl hi hil j h')
      have hq := h.2 j ((ready_head hb hs hjn).1 hj)
      refine wpOp_of_qOp hC (fun a' w' hC' hK => ih (l0.setIfInBounds j true) (listed.setIfInBounds j true) a' w' (inv.set hj hjn) (hs.set (by omega) hjn) hC' hK) ?_
      obtain ⟨o, ho, hg, -⟩ := backB_at hb hjn
      unfold qOp at hq ⊢
      rw [getD_take hjn] at hq
      have ho' : l.toArray[j]? = some o := by simpa using ho
      simp only [ho'] at hq ⊢
      have hw : ∀ y, Region.wanted o y = true := fun y => by simp [Region.wanted, hg]
      rw [hw, if_pos rfl] at hq ⊢
      exact hq
    · have hr0 : Region.ready .any (l.take n).toArray l0 = [] := by
        cases hrr : Region.ready .any (l.take n).toArray l0 with
        | nil => rfl
        | cons i r =>
          exfalso
          have hm : i ∈ Region.ready .any (l.take n).toArray l0 := by rw [hrr]; exact List.mem_cons_self
          obtain ⟨h1, o, ho, -⟩ := mem_ready.1 hm
          have hin : i < n := by
            have := (Array.getElem?_eq_some_iff.1 ho).1
            simp at this
            omega
          exact hun ⟨i, hin, by rw [← hs.2 i hin true]; exact h1⟩
      exact any_add (hend l0 listed a w inv hun hC (h.1 hr0)) (f + 1)
theorem wp_region_quiet_tail {id : Nat} {a : Act} {w : World} {l : List Oper} (n : Nat) (hm : P.follows .mixedOrders = true) (hB : qtailB l n = true) (hC : C { w with drawn := w.drawn + 1 })
    (h : wpQuiet P (l.take n).toArray C (fun a' => ∀ w', C w' → wpList P l.toArray Q (l.drop n) a' w') (l.take n) a) : (Code.region id l.toArray true).wp P Q a w := by
  have hB' := hB
  simp only [qtailB, Bool.and_eq_true, decide_eq_true_eq] at hB'
  obtain ⟨⟨⟨⟨⟨hb, hn⟩, hsk⟩, hch⟩, hlex⟩, hseq⟩ := hB'
  simp only [Region.lexB, Bool.and_eq_true] at hlex
  have htl : (l.take n).length = n := by simp; omega
  refine wp_region_any hm ?_
  have hq := wpAnyQ_lex (C := C) (md := .any) hlex.1 (l.take n) 0 (Array.replicate n false) a (by simp) (by simpa [htl] using hlex.2) h
  have := head_any hB (fun a w hC hq => hq w hC) (l.take n).length (Array.replicate n false) (Array.replicate l.toArray.size false) a _ ?_ ?_ hC hq
  · rw [htl, show n + (l.length - n) = l.toArray.size by simp; omega] at this
    exact this
  · exact ⟨by simp, fun j oj _ hl => (by rw [getD_replicate_false] at hl; cases hl), fun t _ ht => getD_in (by simpa using ht) (getD_replicate_false _ _)⟩
  · refine ⟨by simp, fun j hj b => ?_⟩
    simp only [Array.getD_eq_getD_getElem?]
    simp [hj, show j < l.length by omega]
/-- At the worlds that have grown since. -/
theorem wp_region_below_tail {id : Nat} {a : Act} {w : World} {l : List Oper} (n : Nat) (hm : P.follows .mixedOrders = true) (hB : qtailB l n = true)
    (h : wpQuiet P (l.take n).toArray (fun w' => ∃ p : Regrown, w' = grow (redrawn w p.d) p.os) (fun a' => ∀ w', (∃ p : Regrown, w' = grow (redrawn w p.d) p.os) → wpList P l.toArray Q (l.drop n) a' w') (l.take n) a) : (Code.region id l.toArray true).wp P Q a w :=
  wp_region_quiet_tail (C := fun w' => ∃ p : Regrown, w' = grow (redrawn w p.d) p.os) n hm hB ⟨⟨w.drawn + 1, #[]⟩, by rw [grow_empty]; rfl⟩ h
end
end Go.Proofs.Ytlhoffhagfhbcaa
namespace Go.Proofs.Ytlhoffhagfhbcaa.Dif
open Go.RowKit Go.Sort Go.Proofs.Ytlhoffhagfhbcaa.Byt Go.Proofs.Ytlhoffhagfhbcaa.Gm Go.Proofs.Ytlhoffhagfhbcaa.Num Go.Proofs.Ytlhoffhagfhbcaa.Spe
set_option linter.all false

/-- The first number from n on, k of them looked at; -1. -/
def fstF (p : Nat → Bool) : Nat → Nat → Int
  | 0, _ => -1
  | k + 1, n => if p n then (n : Int) else fstF p k (n + 1)
theorem fstF_yes {p : Nat → Bool} {k n : Nat} (h : p n = true) : fstF p (k + 1) n = (n : Int) := by rw [fstF, if_pos h]
theorem fstF_no {p : Nat → Bool} {k n : Nat} (h : p n = false) : fstF p (k + 1) n = fstF p k (n + 1) := by rw [fstF, h]; rfl
theorem fstF_end (p : Nat → Bool) (n : Nat) : fstF p 0 n = -1 := rfl
/-- Are two tapes' states behind n frames the same? -/
def cvB (j : Nat) (x y : Int) : Bool := if 16 ≤ j ∧ j < 64 ∧ (j - 16) % 6 = 0 then onB x == onB y else x == y
theorem cvB_iff {j : Nat} (hj : j < 66) (x y : Int) : cvB j x y = true ↔ cv j x = cv j y := by
  unfold cvB cv
  by_cases h1 : j = 1
  · subst h1; simp
  · by_cases h2 : 16 ≤ j ∧ j < 64 ∧ (j - 16) % 6 = 0
    · simp [h1, h2]
    · simp [h1, h2]
def eqF (f g : F) : Bool := (List.range 66).all fun j => cvB j (f j) (g j)
theorem eqF_iff (f g : F) : eqF f g = true ↔ stA f = stA g := by
  unfold eqF
  rw [List.all_eq_true]
  constructor
  · intro h
    unfold stA
    congr 1
    funext j
    exact (cvB_iff j.2 _ _).1 (h j.1 (List.mem_range.2 j.2))
  · intro h j hj
    have hj' := List.mem_range.1 hj
    have h2 := congrArg (fun a => a[j]?) h
    simp only [stA_get _ hj'] at h2
    exact (cvB_iff hj' _ _).2 (Option.some.inj h2)
def eqS (sd : Nat) (ls : List (Nat × Nat)) (so : Nat) (os : List (Nat × Nat)) (n : Nat) : Bool := eqF (stK sd ls n) (stK so os n)
theorem eqS_iff (sd : Nat) (ls : List (Nat × Nat)) (so : Nat) (os : List (Nat × Nat)) (n : Nat) : eqS sd ls so os n = true ↔ stA (stK sd ls n) = stA (stK so os n) := eqF_iff _ _
def neS (sd : Nat) (ls : List (Nat × Nat)) (so : Nat) (os : List (Nat × Nat)) (n : Nat) : Bool := !eqS sd ls so os n
def firstV (sd : Nat) (ls : List (Nat × Nat)) (so : Nat) (os : List (Nat × Nat)) : Int := fstF (neS sd ls so os) (min ls.length os.length + 1) 0
def meetV (sd : Nat) (ls : List (Nat × Nat)) (so : Nat) (os : List (Nat × Nat)) (fr : Int) : Int := if fr < 0 then -1 else fstF (eqS sd ls so os) (min ls.length os.length + 1 - fr.toNat) fr.toNat
theorem stK_inv (sd : Nat) (hs : sd < 4294967296) (ls : List (Nat × Nat)) (p : Nat) : Inv (0 + (p : Int)) (0 + 8 * (p : Int)) (stK sd ls p) := (Inv.new (sd : Int) (by omega) (by omega)).play ls p
theorem stK_wf (sd : Nat) (hs : sd < 4294967296) (ls : List (Nat × Nat)) {p : Nat} (hp : p ≤ 20000) : Wf (stK sd ls p) := (stK_inv sd hs ls p).wf (by omega) (by omega) (by omega)
theorem nOf_at {p n : Nat} (h : p ≤ n) : nOf (p : Int) n = p := by unfold nOf clampV; omega
theorem Blk.go {W W' : World} {g : Nat} {t : TypeId} {cs : Array Value} (h : Blk W g t cs) (b : Below W.heap.size W W') : Blk W' g t cs := h.below b h.lt
theorem cellsAt_regrown {w : World} {g : Nat} {t : TypeId} {cs : Array Value} (h : Blk w g t cs) (d : Nat) (os : Array Obj) : cellsAt (grow (redrawn w d) os) g = cs := cellsAt_blk (h.below (below_regrown w d os) h.lt)
theorem cellsAt_new (w : World) (cs : Array Value) (t : TypeId) {g : Nat} (h : w.heap.size = g) : cellsAt (w.alloc (.cells cs t)) g = cs := by subst h; exact cellsAt_blk (Blk.new w t cs)
theorem cellsAt_row66 (w : World) {g g' : Nat} {C : Array Value} (hC : C.size = 66) (h : (cellsAt w g').size = 66) : (cellsAt (w.setRow g C) g').size = 66 := by
  by_cases e : g' = g
  · subst e
    obtain ⟨t, hg⟩ := cellsAt_inv (w := w) (g := g') (by omega)
    rw [cellsAt_blk (Blk.setRow hg C), hC]
  · have : cellsAt (w.setRow g C) g' = cellsAt w g' := by unfold cellsAt; rw [setRow_other w g g' C e]
    rw [this, h]
theorem cellsAt_old (w : World) (o : Obj) {g : Nat} (h : g < w.heap.size) : cellsAt (w.alloc o) g = cellsAt w g := by unfold cellsAt; rw [heap_old w o h]
theorem storeR_all (w : World) (g : Nat) (C : Array Value) (h : (cellsAt w g).size = 66) (hif : (Try.prog.info? 31).map (·.size) = some C.size) (hs : C.size = 66) (h1 : C.all (·.oneCell') = true) :
    storeR Try.prog 31 (.pointer (some ⟨g, 0, none⟩)) (.agg C) w = .ok .skip (w.setRow g C) := by
  obtain ⟨t, hg⟩ := cellsAt_inv (w := w) (g := g) (by omega)
  unfold storeR
  simp only [Instr.storeAt, Instr.sureAddr, Sem.run_bind, Sem.run_pure, Result.andThen_ok, run_storeVar_row w g t 31 _ C hg hif (by rw [h, hs]) h1]
theorem sz_alloc {W : World} {g : Nat} (h : (cellsAt W g).size = 66) (o : Obj) : (cellsAt (W.alloc o) g).size = 66 := by
  obtain ⟨t, hg⟩ := cellsAt_inv (w := W) (g := g) (by omega)
  rw [cellsAt_old W o (lt_of_heap hg)]; exact h
theorem sz_drew {W : World} {g : Nat} (h : (cellsAt W g).size = 66) : (cellsAt W.drew g).size = 66 := h
theorem sz_newz (W : World) : (cellsAt (W.alloc (.cells Try.zeroCells31 31)) W.heap.size).size = 66 := by rw [cellsAt_new W _ _ rfl]; exact hz66
theorem sz_newz' (W : World) (o : Obj) : (cellsAt ((W.alloc o).alloc (.cells Try.zeroCells31 31)) (W.heap.size + 1)).size = 66 := by rw [cellsAt_new (W.alloc o) _ _ (by simp)]; exact hz66
theorem sz_go {W W' : World} (b : Below W.heap.size W W') {g : Nat} (h : (cellsAt W g).size = 66) : (cellsAt W' g).size = 66 := by
  obtain ⟨t, hg⟩ := cellsAt_inv (w := W) (g := g) (by omega)
  have : cellsAt W' g = cellsAt W g := by unfold cellsAt; rw [b.block g (lt_of_heap hg)]
  rw [this]; exact h
theorem cellsAt_go {W W' : World} (b : Below W.heap.size W W') : ∀ g, g < W.heap.size → cellsAt W' g = cellsAt W g := fun g h => by unfold cellsAt; rw [b.block g h]
def storeX (P : Program) (t : TypeId) (p v : Value) (w : World) : Result Next := storeR P t p v w
theorem storeR_let {C : Array Value} {f : F} (LC : Let C f) : ∀ (w : World) (g : Nat), storeR Try.prog 31 (.pointer (some ⟨g, 0, none⟩)) (.agg C) w = if (cellsAt w g).size = 66 then .ok .skip (w.setRow g C) else storeX Try.prog 31 (.pointer (some ⟨g, 0, none⟩)) (.agg C) w := fun w g => by
  split
  · rename_i h; exact storeR_all w g C h LC.info LC.size LC.one
  · rfl
theorem Bw.sz {W0 W : World} (h : Bw W0 W) : W0.heap.size ≤ W.heap.size := RowKit.Below.size h
theorem Bw.rf (W : World) : Bw W W := Below.refl _ W
theorem Bw.dr {W0 W : World} (h : Bw W0 W) : Bw W0 W.drew := RowKit.Below.drew h
theorem Bw.row {W0 W : World} (h : Bw W0 W) (C : Array Value) {g : Nat} (hg : W0.heap.size ≤ g) : Bw W0 (W.setRow g C) := h.touch (touch_setRow W g C) (fun k hk => by omega)
theorem eqS_run (sd so : Nat) (hs : sd < 4294967296) (ho : so < 4294967296) (ls os : List (Nat × Nat)) {n : Nat} (hn : n ≤ 20000) {C D : Array Value} (LC : Let C (stK sd ls n)) (LD : Let D (stK so os n)) (W : World) :
    (Op.equalIn 10000 31 (.agg C) (.agg D)).run Try.prog W = .ok (eqS sd ls so os n) W := by
  obtain ⟨r, hr, hi⟩ := st_eql W (stK_wf sd hs ls hn) (stK_wf so ho os hn)
  have e : r = eqS sd ls so os n := by rw [Bool.eq_iff_iff, hi, eqS_iff]
  rw [LC.eq, LD.eq, ← e]
  exact hr
theorem two_rows {W1 V : World} {gx gy : Nat} {C D : Array Value} {f g : F} (LC : Let C f) (LD : Let D g) (h1 : (cellsAt V gx).size = 66) (h2 : (cellsAt V gy).size = 66) (hne : gx ≠ gy) (hb : Bw W1 V) (hx : W1.heap.size ≤ gx) (hy : W1.heap.size ≤ gy) :
    (∃ t1 t2, SB ((V.setRow gx C).setRow gy D) gx t1 f ∧ SB ((V.setRow gx C).setRow gy D) gy t2 g) ∧ W1.heap.size ≤ gx ∧ W1.heap.size ≤ gy ∧ gx ≠ gy ∧ Bw W1 ((V.setRow gx C).setRow gy D) := by
  obtain ⟨t1, k1⟩ := cellsAt_inv (w := V) (g := gx) (by omega)
  obtain ⟨t2, k2⟩ := cellsAt_inv (w := V) (g := gy) (by omega)
  have b1 : Blk (V.setRow gx C) gx t1 C := Blk.setRow k1 C
  have b2 : Blk (V.setRow gx C) gy t2 (cellsAt V gy) := Blk.touch k2 (touch_setRow V gx C) (fun e => hne e.symm)
  exact ⟨⟨t1, t2, LC.sb (Blk.touch b1 (touch_setRow _ gy D) hne), LD.sb (Blk.setRow b2 D)⟩, hx, hy, hne, (hb.row C hx).row D hy⟩

attribute [local go_sem ↓] exec33 exec_st33
attribute [local go_sem] loadR_at cellsAt_drew cellsAt_row66 sz_alloc sz_newz sz_newz'

set_option maxRecDepth 100000 in
set_option maxHeartbeats 8000000 in
theorem first_any (w : World) (sd so : Nat) (hs : sd < 4294967296) (ho : so < 4294967296) (a b : Option Addr) (ca cb : Nat) (ls os : List (Nat × Nat)) (hra : InRow w a ls) (hrb : InRow w b os) (hl : ls.length ≤ 20000) (hm : os.length ≤ 20000) :
    Calls Try.prog 23 #[.agg #[.int .u32 (sd : Int), .slice a ls.length ca], .agg #[.int .u32 (so : Int), .slice b os.length cb]] w fun e w' => e = .returned (.int .i64 (firstV sd ls so os)) ∧ Below w.heap.size w w' := by
  obtain ⟨l, hll⟩ : ∃ l, ls.length = l := ⟨_, rfl⟩
  obtain ⟨m, hmm⟩ : ∃ m, os.length = m := ⟨_, rfl⟩
  rw [hll, hmm]
  obtain ⟨ta, hta⟩ : ∃ t, t = w.heap.size := ⟨_, rfl⟩
  obtain ⟨tb, htb⟩ : ∃ t, t = w.heap.size + 1 := ⟨_, rfl⟩
  obtain ⟨W1, hW1⟩ : ∃ W1, W1 = (w.alloc (.cells #[.int .u32 (sd : Int), .slice a l ca] 49)).alloc (.cells #[.int .u32 (so : Int), .slice b m cb] 49) := ⟨_, rfl⟩
  have hX : Blk W1 ta 49 #[.int .u32 (sd : Int), .slice a l ca] := by rw [hW1, hta]; exact (Blk.new w _ _).alloc _
  have hY : Blk W1 tb 49 #[.int .u32 (so : Int), .slice b m cb] := by
    rw [hW1, htb]
    have := Blk.new (w.alloc (.cells #[.int .u32 (sd : Int), .slice a l ca] 49)) 49 #[.int .u32 (so : Int), .slice b m cb]
    simpa using this
  have hB : Below w.heap.size w W1 := by rw [hW1]; exact ((Below.refl _ w).alloc (Nat.le_refl _) _).alloc (by simp) _
  have HRA := Lib.hid (inRow_pre hra hB)
  have HRB := Lib.hid (inRow_pre hrb hB)
  obtain ⟨C0, LC0⟩ := let_of (stK sd ls 0)
  obtain ⟨D0, LD0⟩ := let_of (stK so os 0)
  have pC := Lib.hid (show ∀ W, Calls Try.prog 35 #[.int .u32 (sd : Int)] W fun e w' => e = .returned (.agg C0) ∧ Below W.heap.size W w' from fun W => by
    have := new_any W (sd : Int) (by omega) (by omega)
    unfold stV at this
    rw [show newF (sd : Int) = stK sd ls 0 from rfl, ← LC0.eq] at this
    exact this)
  have pD := Lib.hid (show ∀ W, Calls Try.prog 35 #[.int .u32 (so : Int)] W fun e w' => e = .returned (.agg D0) ∧ Below W.heap.size W w' from fun W => by
    have := new_any W (so : Int) (by omega) (by omega)
    unfold stV at this
    rw [show newF (so : Int) = stK so os 0 from rfl, ← LD0.eq] at this
    exact this)
  have HX := Lib.hid hX
  have HY := Lib.hid hY
  have HB := Lib.hid hB
  have HLL := Lib.hid hll
  have HMM := Lib.hid hmm
  have HS := Lib.hid (show ∀ W, Bw W1 W → W.cell? ⟨ta, 0, none⟩ = some (.int .u32 (sd : Int)) ∧ W.cell? ⟨tb, 0, none⟩ = some (.int .u32 (so : Int)) from fun W h => ⟨(hX.below h hX.lt).cell 0, (hY.below h hY.lt).cell 0⟩)
  have d0 := Bw.drew0 W1
  have hc66 := LC0.size
  have hd66 := LD0.size
  have hsC := storeR_let LC0
  have hsD := storeR_let LD0
  have hz66 := hz66
  have HC0 := Lib.hid LC0
  have HD0 := Lib.hid LD0
  clear hX hY hB hra hrb hll hmm LC0 LD0
  go_enter Try.func23, Try.ntmps23
  go_upto_region 1 with fail
  rw [← hW1, ← htb, ← hta]
  clear hW1 hta htb
  go_cut [5, 6] (fun xv yv wx => ∃ gx gy, xv = .pointer (some ⟨gx, 0, none⟩) ∧ yv = .pointer (some ⟨gy, 0, none⟩) ∧ (∃ t1 t2, SB wx gx t1 (stK sd ls 0) ∧ SB wx gy t2 (stK so os 0)) ∧ W1.heap.size ≤ gx ∧ W1.heap.size ≤ gy ∧ gx ≠ gy ∧ Bw W1 wx)
  case first =>
    go_region_held3 (fun W => W.cell? ⟨ta, 0, none⟩ = some (.int .u32 (sd : Int)) ∧ W.cell? ⟨tb, 0, none⟩ = some (.int .u32 (so : Int))) ((refine HS.out _ ?_; (repeat (first | exact d0 | exact d1 | exact d2 | exact Bw.rf _ | refine Bw.al ?_ _ | refine Bw.dr ?_ | (refine Bw.row ?_ _ (by first | omega | (simp; omega) | fail)) | fail))))
      (first
        | (go_at_call 35; with_reducible refine (pC.out _).mono ?_; rintro e w1 ⟨rfl, b1⟩; have d1 : Bw W1 w1 := (by refine Bw.go ?_ b1; (repeat (first | exact d0 | exact d1 | exact d2 | exact Bw.rf _ | refine Bw.al ?_ _ | refine Bw.dr ?_ | (refine Bw.row ?_ _ (by first | omega | (simp; omega) | fail)) | fail))); have z1 := Bw.sz d1; have k1 := cellsAt_go b1; have y1 := RowKit.Below.size b1; (try (have q1 : W1.heap.size < w1.heap.size := (by simp at y1; omega))); (try (have q2 : W1.heap.size + 1 < w1.heap.size := (by simp at y1; omega))); (try (have f1 : (cellsAt w1 W1.heap.size).size = 66 := sz_go b1 (sz_newz W1.drew))); (try (have f1 : (cellsAt w1 W1.heap.size).size = 66 := sz_go b1 (sz_drew (sz_newz W1)))); (try (have f1 : (cellsAt w1 W1.heap.size).size = 66 := sz_go b1 (sz_alloc (sz_newz W1.drew) _))); (try (have f1 : (cellsAt w1 W1.heap.size).size = 66 := sz_go b1 (sz_drew (sz_alloc (sz_newz W1) _)))); (try (have f2 : (cellsAt w1 (W1.heap.size + 1)).size = 66 := sz_go b1 (sz_newz' W1.drew _))); (try (have f2 : (cellsAt w1 (W1.heap.size + 1)).size = 66 := sz_go b1 (sz_drew (sz_newz' W1 _)))))
        | (go_at_call 35; with_reducible refine (pD.out _).mono ?_; rintro e w2 ⟨rfl, b2⟩; have d2 : Bw W1 w2 := (by refine Bw.go ?_ b2; (repeat (first | exact d0 | exact d1 | exact d2 | exact Bw.rf _ | refine Bw.al ?_ _ | refine Bw.dr ?_ | (refine Bw.row ?_ _ (by first | omega | (simp; omega) | fail)) | fail))); have z2 := Bw.sz d2; have k2 := cellsAt_go b2; have y2 := RowKit.Below.size b2; (try (have q3 : W1.heap.size < w2.heap.size := (by simp at y1 y2; omega))); (try (have q4 : W1.heap.size + 1 < w2.heap.size := (by simp at y1 y2; omega))); (try (have q5 : w1.heap.size < w2.heap.size := (by simp at y1 y2; omega))); (try (have q6 : w1.heap.size + 1 < w2.heap.size := (by simp at y1 y2; omega))); (try (have f3 : (cellsAt w2 W1.heap.size).size = 66 := sz_go b2 f1)); (try (have f3 : (cellsAt w2 W1.heap.size).size = 66 := sz_go b2 (sz_alloc f1 _))); (try (have f4 : (cellsAt w2 (W1.heap.size + 1)).size = 66 := sz_go b2 f2)); (try (have f5 : (cellsAt w2 w1.heap.size).size = 66 := sz_go b2 (sz_newz w1))); (try (have f5 : (cellsAt w2 w1.heap.size).size = 66 := sz_go b2 (sz_alloc (sz_newz w1) _))); (try (have f6 : (cellsAt w2 (w1.heap.size + 1)).size = 66 := sz_go b2 (sz_newz' w1 _))))
        | fail)
    all_goals
      go_wp2_with fail
      go_meet
      refine ⟨_, _, rfl, rfl, two_rows HC0.out HD0.out ?_ ?_ ?_ ?_ ?_ ?_⟩
      · (repeat (first | with_reducible exact f1 | with_reducible exact f2 | with_reducible exact f3 | with_reducible exact f4 | with_reducible exact f5 | with_reducible exact f6 | with_reducible exact sz_newz _ | with_reducible exact sz_newz' _ _ | with_reducible refine sz_alloc ?_ _ | fail))
      · (repeat (first | with_reducible exact f1 | with_reducible exact f2 | with_reducible exact f3 | with_reducible exact f4 | with_reducible exact f5 | with_reducible exact f6 | with_reducible exact sz_newz _ | with_reducible exact sz_newz' _ _ | with_reducible refine sz_alloc ?_ _ | fail))
      · omega
      · (repeat (first | exact d0 | exact d1 | exact d2 | exact Bw.rf _ | refine Bw.al ?_ _ | refine Bw.dr ?_ | (refine Bw.row ?_ _ (by first | omega | (simp; omega) | fail)) | fail))
      · omega
      · omega
  case rest =>
    obtain ⟨gx, gy, rfl, rfl, ⟨t1, t2, hx0, hy0⟩, hgx, hgy, hne, hbc⟩ := hcut
    obtain ⟨k, hk⟩ : ∃ k, k = min l m := ⟨_, rfl⟩
    have HF0 := Lib.hid (show firstV sd ls so os = fstF (neS sd ls so os) (k + 1) 0 by rw [firstV, HLL.out, HMM.out, ← hk])
    have HK := Lib.hid hk
    have HGX := Lib.hid (show W1.heap.size ≤ gx ∧ W1.heap.size ≤ gy ∧ gx ≠ gy from ⟨hgx, hgy, hne⟩)
    clear pC pD hc66 hd66 hsC hsD hz66 HC0 HD0 d0 hk hgx hgy hne
    obtain ⟨R, hRV⟩ : ∃ R, R = firstV sd ls so os := ⟨_, rfl⟩
    rw [← hRV] at HF0
    have HRV := Lib.hid hRV
    clear hRV
    go_wp2_with fail
    go_loopw [7] (fun nv wr => ∃ n : Nat, n ≤ k ∧ nv = .int .i64 (n : Int) ∧ SB wr gx t1 (stK sd ls n) ∧ SB wr gy t2 (stK so os n) ∧ Bw W1 wr ∧ R = fstF (neS sd ls so os) (k + 1 - n) n) (fun nv _ => k + 1 - (intOf nv).toNat)
    case atStart => exact ⟨0, Nat.zero_le _, rfl, hx0, hy0, hbc, HF0.out⟩
    case round =>
      clear hx0 hy0 hbc HF0
      obtain ⟨n, hn, rfl, hx, hy, hb, hR⟩ := hrel
      obtain ⟨C, LC⟩ := let_of (stK sd ls n)
      obtain ⟨D, LD⟩ := let_of (stK so os n)
      have hkl : k ≤ l ∧ k ≤ m ∧ (k = l ∨ k = m) := by have := HK.out; omega
      have hn2 : n ≤ 20000 := by have := HLL.out; have := HMM.out; omega
      have hEq := eqS_run sd so hs ho ls os hn2 LC LD
      have hg := guard33
      have hX := LC.blk hx
      have hY := LD.blk hy
      have hcs := LC.size
      have hds := LD.size
      have hif := LC.info
      have hjf := LD.info
      have xa := (HX.out.below hb HX.out.lt).cell 1
      have ya := (HY.out.below hb HY.out.lt).cell 1
      simp at xa ya
      rw [show k + 1 - n = (k - n) + 1 by omega] at hR
      have HB2 := Lib.hid hb
      have HKL := Lib.hid hkl
      have HN := Lib.hid hn
      clear hx hy hb hkl hn
      cases hq : eqS sd ls so os n
      · have HR := Lib.hid (show R = (n : Int) by rw [hR]; exact fstF_yes (by rw [neS, hq]; rfl))
        rw [hq] at hEq
        clear hR hq hn2
        go_wp2_with (first
          | (refine wpList_load_blk (by rfl) 31 _ (by rfl) gx (by rfl) _ C _ hX Try.underlying31 (by rfl) hif ?_)
          | (refine wpList_load_blk (by rfl) 31 _ (by rfl) gy (by rfl) _ D _ hY Try.underlying31 (by rfl) hjf ?_)
          | fail)
        go_ret
        exact ⟨by rw [← HRV.out, HR.out]; rfl, Below.trans HB.out (Below.mono HB2.out HB.out.size)⟩
      · have hRn : R = fstF (neS sd ls so os) (k - n) (n + 1) := by rw [hR]; exact fstF_no (by rw [neS, hq]; rfl)
        have HR := Lib.hid hRn
        rw [hq] at hEq
        clear hR hq hRn
        go_upto_region 6 with (first
          | (refine wpList_load_blk (by rfl) 31 _ (by rfl) gx (by rfl) _ C _ hX Try.underlying31 (by rfl) hif ?_)
          | (refine wpList_load_blk (by rfl) 31 _ (by rfl) gy (by rfl) _ D _ hY Try.underlying31 (by rfl) hjf ?_)
          | fail)
        by_cases hnk : n < k
        · have hlt : n < l ∧ n < m := by have := HKL.out; omega
          obtain ⟨hnl, hnm⟩ := hlt
          have e1 : ¬ (l : Int) ≤ (n : Int) := by omega
          have e2 : ¬ (m : Int) ≤ (n : Int) := by omega
          have e1' : ¬ l ≤ n := by omega
          have e2' : ¬ m ≤ n := by omega
          have ra := inRow_pre HRA.out HB2.out
          have rb := inRow_pre HRB.out HB2.out
          obtain ⟨ga, oa, rfl, hga, cca⟩ := ra.2 (by rw [HLL.out]; omega)
          obtain ⟨gb, ob, rfl, hgb, ccb⟩ := rb.2 (by rw [HMM.out]; omega)
          have r1 := cca n (by rw [HLL.out]; exact hnl)
          have r2 := ccb n (by rw [HMM.out]; exact hnm)
          obtain ⟨C', LC'⟩ := let_of (stK sd ls (n + 1))
          obtain ⟨D', LD'⟩ := let_of (stK so os (n + 1))
          have pC := Lib.hid (fun W => step_any W (stK sd ls n) _ _ (inA ls n) (inA_lt ra.1 n) (stK_inv sd hs ls n) (by omega) (by omega) (by omega))
          have pD := Lib.hid (fun W => step_any W (stK so os n) _ _ (inA os n) (inA_lt rb.1 n) (stK_inv so ho os n) (by omega) (by omega) (by omega))
          unfold inV stV at pC pD
          rw [← LC.eq, show stepF (stK sd ls n) (inA ls n) = stK sd ls (n + 1) from rfl, ← LC'.eq] at pC
          rw [← LD.eq, show stepF (stK so os n) (inA os n) = stK so os (n + 1) from rfl, ← LD'.eq] at pD
          have hci := LC'.info
          have hdi := LD'.info
          have hc1 := LC'.one
          have hd1 := LD'.one
          have hCC : C.size = C'.size := by rw [LC.size, LC'.size]
          have hDD : D.size = D'.size := by rw [LD.size, LD'.size]
          have qx := cellsAt_regrown hX
          have qy := cellsAt_regrown hY
          have cA := regrown wr (v := .agg C') (fun W _ => pC.out W)
          have cB := regrown wr (v := .agg D') (fun W _ => pD.out W)
          have qa := cell_regrown xa
          have qb := cell_regrown ya
          have u0 := cell_regrown r1.1
          have u1 := cell_regrown r1.2
          have u2 := cell_regrown r2.1
          have u3 := cell_regrown r2.2
          have HXX := Lib.hid hX
          have HYY := Lib.hid hY
          have HC' := Lib.hid LC'
          have HD' := Lib.hid LD'
          have n0 : (0 : Int) ≤ (n : Int) := by omega
          have n1 : (n : Int) < (l : Int) := by omega
          have n2 : (n : Int) < (m : Int) := by omega
          clear LC LD LC' LD' cca ccb ra rb pC pD r1 r2 hX hY hEq hg hif hjf
          generalize inA ls n 0 = i0 at *
          generalize inA ls n 1 = i1 at *
          generalize inA os n 0 = j0 at *
          generalize inA os n 1 = j1 at *
          go_upto_region 8 with fail
          clear xa ya
          refine wp_region_below_tail 14 (by kernel_rfl) (by kernel_rfl) ?_
          simp only [List.take_succ_cons, List.take_zero, List.drop_succ_cons, List.drop_zero]
          iterate 6 (quiet_step (fail))
          quiet_step (exact cA _ _)
          iterate 6 (quiet_step (fail))
          quiet_step (exact cB _ _)
          refine wpQuiet_nil ?_
          intro W6 hw'
          have hb6 : Bw wr W6 := by
            obtain ⟨⟨dq, oq⟩, rfl⟩ := hw'
            exact below_regrown wr dq oq
          have X6 := Blk.go HXX.out hb6
          have Y6 := Blk.go HYY.out hb6
          have HB6 := Lib.hid (show Bw W1 W6 from Bw.go HB2.out hb6)
          have hgne := HGX.out
          clear hw' hb6 qx qy qa qb u0 u1 u2 u3 cA cB
          go_wp2_with (first
            | (refine wpList_store_blk (by rfl) 31 _ _ (by rfl) gx C' (by rfl) (by rfl) _ C X6 hci hCC hc1 ?_; intro W7 hd7 ht7; have Y7 := Blk.touch Y6 ht7 (by omega))
            | (refine wpList_store_blk (by rfl) 31 _ _ (by rfl) gy D' (by rfl) (by rfl) _ D Y7 hdi hDD hd1 ?_; intro W8 hd8 ht8)
            | fail)
          have X8 := Blk.touch hd7 ht8 (by omega)
          have b8 : Bw W1 W8 := Bw.touch (Bw.touch HB6.out ht7 (fun k hk => by omega)) ht8 (fun k hk => by omega)
          have HX8 := Lib.hid (HC'.out.sb X8)
          have HY8 := Lib.hid (HD'.out.sb hd8)
          have HB8 := Lib.hid b8
          clear X8 b8 hd7 ht7 hd8 ht8 X6 Y6 Y7 hgne
          go_wp2_with fail
          go_roundw
          case rel => exact ⟨n + 1, hnk, by go_num, HX8.out, HY8.out, HB8.out, by rw [show k + 1 - (n + 1) = k - n by omega]; exact HR.out⟩
          case measure => simp [intOf]; omega
        · have hnk' : n = k := by have := HN.out; omega
          have HRE := Lib.hid (show R = -1 by rw [HR.out, hnk', Nat.sub_self]; rfl)
          have hkl := HKL.out
          clear hX hY hEq hg hif hjf LC LD HN HR
          by_cases hnl : n = l
          · have e1 : (l : Int) ≤ (n : Int) := by omega
            have e1' : l ≤ n := by omega
            clear hkl hnk hnk'
            go_wp2_with fail
            go_ret
            exact ⟨by rw [← HRV.out, HRE.out]; rfl, Below.trans HB.out (Below.mono HB2.out HB.out.size)⟩
          · have e1 : ¬ (l : Int) ≤ (n : Int) := by omega
            have e1' : ¬ l ≤ n := by omega
            have e2 : (m : Int) ≤ (n : Int) := by omega
            have e2' : m ≤ n := by omega
            clear hkl hnk hnk' hnl
            go_wp2_with fail
            go_ret
            exact ⟨by rw [← HRV.out, HRE.out]; rfl, Below.trans HB.out (Below.mono HB2.out HB.out.size)⟩
--<meet
set_option maxRecDepth 100000 in
set_option maxHeartbeats 8000000 in
theorem meet_any (w : World) (sd so : Nat) (hs : sd < 4294967296) (ho : so < 4294967296) (a b : Option Addr) (ca cb : Nat) (ls os : List (Nat × Nat)) (hra : InRow w a ls) (hrb : InRow w b os) (fr : Int) (hl : ls.length ≤ 20000) (hm : os.length ≤ 20000) (hla : ls.length ≤ ca) (hlb : os.length ≤ cb) (hca : ca ≤ 9223372036854775807) (hcb : cb ≤ 9223372036854775807) (hna : a = none → ca = 0) (hnb : b = none → cb = 0) (hf0 : -9223372036854775808 ≤ fr) (hf1 : fr ≤ 9223372036854775807) :
    Calls Try.prog 27 #[.agg #[.int .u32 (sd : Int), .slice a ls.length ca], .agg #[.int .u32 (so : Int), .slice b os.length cb], .int .i64 fr] w fun e w' => e = .returned (.int .i64 (meetV sd ls so os fr)) ∧ Below w.heap.size w w' := by
  obtain ⟨l, hll⟩ : ∃ l, ls.length = l := ⟨_, rfl⟩
  obtain ⟨m, hmm⟩ : ∃ m, os.length = m := ⟨_, rfl⟩
  rw [hll, hmm]
  obtain ⟨ta, hta⟩ : ∃ t, t = w.heap.size := ⟨_, rfl⟩
  obtain ⟨tb, htb⟩ : ∃ t, t = w.heap.size + 1 := ⟨_, rfl⟩
  obtain ⟨W1, hW1⟩ : ∃ W1, W1 = (w.alloc (.cells #[.int .u32 (sd : Int), .slice a l ca] 49)).alloc (.cells #[.int .u32 (so : Int), .slice b m cb] 49) := ⟨_, rfl⟩
  have hX : Blk W1 ta 49 #[.int .u32 (sd : Int), .slice a l ca] := by rw [hW1, hta]; exact (Blk.new w _ _).alloc _
  have hY : Blk W1 tb 49 #[.int .u32 (so : Int), .slice b m cb] := by
    rw [hW1, htb]
    have := Blk.new (w.alloc (.cells #[.int .u32 (sd : Int), .slice a l ca] 49)) 49 #[.int .u32 (so : Int), .slice b m cb]
    simpa using this
  have hB : Below w.heap.size w W1 := by rw [hW1]; exact ((Below.refl _ w).alloc (Nat.le_refl _) _).alloc (by simp) _
  have HRA := Lib.hid (inRow_pre hra hB)
  have HRB := Lib.hid (inRow_pre hrb hB)
  obtain ⟨C0, LC0⟩ := let_of (stAt sd ls fr)
  obtain ⟨D0, LD0⟩ := let_of (stAt so os fr)
  have pC := Lib.hid (show ∀ W, Bw W1 W → Calls Try.prog 51 #[.agg #[.int .u32 (sd : Int), .slice a l ca], .int .i64 fr] W fun e w' => e = .returned (.agg C0) ∧ Below W.heap.size W w' from fun W h => by
    have := tstate_any W sd hs a ca ls fr (inRow_pre HRA.out h) (by omega) (by omega) hca hna
    unfold stV at this
    rw [hll, ← LC0.eq] at this
    exact this)
  have pD := Lib.hid (show ∀ W, Bw W1 W → Calls Try.prog 51 #[.agg #[.int .u32 (so : Int), .slice b m cb], .int .i64 fr] W fun e w' => e = .returned (.agg D0) ∧ Below W.heap.size W w' from fun W h => by
    have := tstate_any W so ho b cb os fr (inRow_pre HRB.out h) (by omega) (by omega) hcb hnb
    unfold stV at this
    rw [hmm, ← LD0.eq] at this
    exact this)
  have HX := Lib.hid hX
  have HY := Lib.hid hY
  have HB := Lib.hid hB
  have HLL := Lib.hid hll
  have HMM := Lib.hid hmm
  have HS := Lib.hid (show ∀ W, Bw W1 W → W.cell? ⟨ta, 0, none⟩ = some (.int .u32 (sd : Int)) ∧ W.cell? ⟨ta, 1, none⟩ = some (.slice a l ca) ∧ W.cell? ⟨tb, 0, none⟩ = some (.int .u32 (so : Int)) ∧ W.cell? ⟨tb, 1, none⟩ = some (.slice b m cb) from fun W h => ⟨(hX.below h hX.lt).cell 0, (hX.below h hX.lt).cell 1, (hY.below h hY.lt).cell 0, (hY.below h hY.lt).cell 1⟩)
  have d0 := Bw.drew0 W1
  have hc66 := LC0.size
  have hd66 := LD0.size
  have hsC := storeR_let LC0
  have hsD := storeR_let LD0
  have hz66 := hz66
  have HC0 := Lib.hid LC0
  have HD0 := Lib.hid LD0
  clear hX hY hB hra hrb hll hmm LC0 LD0
  go_enter Try.func27, Try.ntmps27
  go_upto_region 1 with fail
  rw [← hW1, ← htb, ← hta]
  clear hW1 hta htb
  go_cut [7, 8] (fun xv yv wx => ∃ gx gy, xv = .pointer (some ⟨gx, 0, none⟩) ∧ yv = .pointer (some ⟨gy, 0, none⟩) ∧ (∃ t1 t2, SB wx gx t1 (stAt sd ls fr) ∧ SB wx gy t2 (stAt so os fr)) ∧ W1.heap.size ≤ gx ∧ W1.heap.size ≤ gy ∧ gx ≠ gy ∧ Bw W1 wx)
  case first =>
    go_region_held3 (fun W => W.cell? ⟨ta, 0, none⟩ = some (.int .u32 (sd : Int)) ∧ W.cell? ⟨ta, 1, none⟩ = some (.slice a l ca) ∧ W.cell? ⟨tb, 0, none⟩ = some (.int .u32 (so : Int)) ∧ W.cell? ⟨tb, 1, none⟩ = some (.slice b m cb)) ((refine HS.out _ ?_; (repeat (first | exact d0 | exact d1 | exact d2 | exact Bw.rf _ | refine Bw.al ?_ _ | refine Bw.dr ?_ | (refine Bw.row ?_ _ (by first | omega | (simp; omega) | fail)) | fail))))
      (first
        | (go_at_call 51; with_reducible refine (pC.out _ ?hbc).mono ?_; (case hbc => (repeat (first | exact d0 | exact d1 | exact d2 | exact Bw.rf _ | refine Bw.al ?_ _ | refine Bw.dr ?_ | (refine Bw.row ?_ _ (by first | omega | (simp; omega) | fail)) | fail)));  rintro e w1 ⟨rfl, b1⟩; have d1 : Bw W1 w1 := (by refine Bw.go ?_ b1; (repeat (first | exact d0 | exact d1 | exact d2 | exact Bw.rf _ | refine Bw.al ?_ _ | refine Bw.dr ?_ | (refine Bw.row ?_ _ (by first | omega | (simp; omega) | fail)) | fail))); have z1 := Bw.sz d1; have k1 := cellsAt_go b1; have y1 := RowKit.Below.size b1; (try (have q1 : W1.heap.size < w1.heap.size := (by simp at y1; omega))); (try (have q2 : W1.heap.size + 1 < w1.heap.size := (by simp at y1; omega))); (try (have f1 : (cellsAt w1 W1.heap.size).size = 66 := sz_go b1 (sz_newz W1.drew))); (try (have f1 : (cellsAt w1 W1.heap.size).size = 66 := sz_go b1 (sz_drew (sz_newz W1)))); (try (have f1 : (cellsAt w1 W1.heap.size).size = 66 := sz_go b1 (sz_alloc (sz_newz W1.drew) _))); (try (have f1 : (cellsAt w1 W1.heap.size).size = 66 := sz_go b1 (sz_drew (sz_alloc (sz_newz W1) _)))); (try (have f2 : (cellsAt w1 (W1.heap.size + 1)).size = 66 := sz_go b1 (sz_newz' W1.drew _))); (try (have f2 : (cellsAt w1 (W1.heap.size + 1)).size = 66 := sz_go b1 (sz_drew (sz_newz' W1 _)))))
        | (go_at_call 51; with_reducible refine (pD.out _ ?hbc).mono ?_; (case hbc => (repeat (first | exact d0 | exact d1 | exact d2 | exact Bw.rf _ | refine Bw.al ?_ _ | refine Bw.dr ?_ | (refine Bw.row ?_ _ (by first | omega | (simp; omega) | fail)) | fail)));  rintro e w2 ⟨rfl, b2⟩; have d2 : Bw W1 w2 := (by refine Bw.go ?_ b2; (repeat (first | exact d0 | exact d1 | exact d2 | exact Bw.rf _ | refine Bw.al ?_ _ | refine Bw.dr ?_ | (refine Bw.row ?_ _ (by first | omega | (simp; omega) | fail)) | fail))); have z2 := Bw.sz d2; have k2 := cellsAt_go b2; have y2 := RowKit.Below.size b2; (try (have q3 : W1.heap.size < w2.heap.size := (by simp at y1 y2; omega))); (try (have q4 : W1.heap.size + 1 < w2.heap.size := (by simp at y1 y2; omega))); (try (have q5 : w1.heap.size < w2.heap.size := (by simp at y1 y2; omega))); (try (have q6 : w1.heap.size + 1 < w2.heap.size := (by simp at y1 y2; omega))); (try (have f3 : (cellsAt w2 W1.heap.size).size = 66 := sz_go b2 f1)); (try (have f3 : (cellsAt w2 W1.heap.size).size = 66 := sz_go b2 (sz_alloc f1 _))); (try (have f4 : (cellsAt w2 (W1.heap.size + 1)).size = 66 := sz_go b2 f2)); (try (have f5 : (cellsAt w2 w1.heap.size).size = 66 := sz_go b2 (sz_newz w1))); (try (have f5 : (cellsAt w2 w1.heap.size).size = 66 := sz_go b2 (sz_alloc (sz_newz w1) _))); (try (have f6 : (cellsAt w2 (w1.heap.size + 1)).size = 66 := sz_go b2 (sz_newz' w1 _))))
        | fail)
    all_goals
      go_wp2_with fail
      go_meet
      refine ⟨_, _, rfl, rfl, two_rows HC0.out HD0.out ?_ ?_ ?_ ?_ ?_ ?_⟩
      · (repeat (first | with_reducible exact f1 | with_reducible exact f2 | with_reducible exact f3 | with_reducible exact f4 | with_reducible exact f5 | with_reducible exact f6 | with_reducible exact sz_newz _ | with_reducible exact sz_newz' _ _ | with_reducible refine sz_alloc ?_ _ | fail))
      · (repeat (first | with_reducible exact f1 | with_reducible exact f2 | with_reducible exact f3 | with_reducible exact f4 | with_reducible exact f5 | with_reducible exact f6 | with_reducible exact sz_newz _ | with_reducible exact sz_newz' _ _ | with_reducible refine sz_alloc ?_ _ | fail))
      · omega
      · (repeat (first | exact d0 | exact d1 | exact d2 | exact Bw.rf _ | refine Bw.al ?_ _ | refine Bw.dr ?_ | (refine Bw.row ?_ _ (by first | omega | (simp; omega) | fail)) | fail))
      · omega
      · omega
  case rest =>
    obtain ⟨gx, gy, rfl, rfl, ⟨t1, t2, hx0, hy0⟩, hgx, hgy, hne, hbc⟩ := hcut
    obtain ⟨k, hk⟩ : ∃ k, k = min l m := ⟨_, rfl⟩
    have HK := Lib.hid hk
    have HGX := Lib.hid (show W1.heap.size ≤ gx ∧ W1.heap.size ≤ gy ∧ gx ≠ gy from ⟨hgx, hgy, hne⟩)
    clear pC pD hc66 hd66 hsC hsD hz66 HC0 HD0 d0 hk hgx hgy hne
    obtain ⟨R, hRV⟩ : ∃ R, R = meetV sd ls so os fr := ⟨_, rfl⟩
    have HRV := Lib.hid hRV
    have HBC := Lib.hid hbc
    have xc := (HX.out.below hbc HX.out.lt).cell 1
    have yc := (HY.out.below hbc HY.out.lt).cell 1
    simp at xc yc
    have hkl := HK.out
    by_cases hfr : fr < 0
    · have HRE := Lib.hid (show R = -1 by rw [hRV, meetV, if_pos hfr])
      have hfr' : decide (fr < 0) = true := decide_eq_true hfr
      clear hRV hx0 hy0 hkl
      go_wp2_with fail
      go_ret
      exact ⟨by rw [← HRV.out, HRE.out]; rfl, Below.trans HB.out (Below.mono HBC.out HB.out.size)⟩
    have hR0 : R = fstF (eqS sd ls so os) (k + 1 - fr.toNat) fr.toNat := by rw [hRV, meetV, if_neg hfr, HLL.out, HMM.out, ← hkl]
    clear hRV
    obtain ⟨p, rfl⟩ : ∃ p : Nat, fr = (p : Int) := ⟨fr.toNat, by omega⟩
    rw [show ((p : Int)).toNat = p from rfl] at hR0
    by_cases hpl : l < p
    · have e1 : (l : Int) < (p : Int) := by omega
      have HRE := Lib.hid (show R = -1 by rw [hR0, show k + 1 - p = 0 by omega]; rfl)
      clear hR0 hx0 hy0 hkl
      go_wp2_with fail
      go_ret
      exact ⟨by rw [← HRV.out, HRE.out]; rfl, Below.trans HB.out (Below.mono HBC.out HB.out.size)⟩
    by_cases hpm : m < p
    · have e0 : ¬ (l : Int) < (p : Int) := by omega
      have e1 : (m : Int) < (p : Int) := by omega
      have HRE := Lib.hid (show R = -1 by rw [hR0, show k + 1 - p = 0 by omega]; rfl)
      clear hR0 hx0 hy0 hkl
      go_wp2_with fail
      go_ret
      exact ⟨by rw [← HRV.out, HRE.out]; rfl, Below.trans HB.out (Below.mono HBC.out HB.out.size)⟩
    have hpk : p ≤ k := by omega
    have e0 : ¬ (l : Int) < (p : Int) := by omega
    have e1 : ¬ (m : Int) < (p : Int) := by omega
    have hnx : stAt sd ls (p : Int) = stK sd ls p := by rw [stAt, stK, nOf_at (by rw [HLL.out]; omega)]
    have hny : stAt so os (p : Int) = stK so os p := by rw [stAt, stK, nOf_at (by rw [HMM.out]; omega)]
    rw [hnx] at hx0
    rw [hny] at hy0
    have HF0 := Lib.hid hR0
    have HPK := Lib.hid hpk
    clear hnx hny hR0 hkl hfr hpl hpm hpk
    go_wp2_with fail
    go_loopw [9] (fun nv wr => ∃ n : Nat, n ≤ k ∧ nv = .int .i64 (n : Int) ∧ SB wr gx t1 (stK sd ls n) ∧ SB wr gy t2 (stK so os n) ∧ Bw W1 wr ∧ R = fstF (eqS sd ls so os) (k + 1 - n) n) (fun nv _ => k + 1 - (intOf nv).toNat)
    case atStart => exact ⟨p, HPK.out, rfl, hx0, hy0, hbc, HF0.out⟩
    case round =>
      clear hx0 hy0 hbc HF0 xc yc e0 e1
      obtain ⟨n, hn, rfl, hx, hy, hb, hR⟩ := hrel
      obtain ⟨C, LC⟩ := let_of (stK sd ls n)
      obtain ⟨D, LD⟩ := let_of (stK so os n)
      have hkl : k ≤ l ∧ k ≤ m ∧ (k = l ∨ k = m) := by have := HK.out; omega
      have hn2 : n ≤ 20000 := by have := HLL.out; have := HMM.out; omega
      have hEq := eqS_run sd so hs ho ls os hn2 LC LD
      have hg := guard33
      have hX := LC.blk hx
      have hY := LD.blk hy
      have hcs := LC.size
      have hds := LD.size
      have hif := LC.info
      have hjf := LD.info
      have xa := (HX.out.below hb HX.out.lt).cell 1
      have ya := (HY.out.below hb HY.out.lt).cell 1
      simp at xa ya
      rw [show k + 1 - n = (k - n) + 1 by omega] at hR
      have HB2 := Lib.hid hb
      have HKL := Lib.hid hkl
      have HN := Lib.hid hn
      clear hx hy hb hkl hn
      cases hq : eqS sd ls so os n
      · have hRn : R = fstF (eqS sd ls so os) (k - n) (n + 1) := by rw [hR]; exact fstF_no hq
        have HR := Lib.hid hRn
        rw [hq] at hEq
        clear hR hq hRn
        go_upto_region 8 with (first
          | (refine wpList_load_blk (by rfl) 31 _ (by rfl) gx (by rfl) _ C _ hX Try.underlying31 (by rfl) hif ?_)
          | (refine wpList_load_blk (by rfl) 31 _ (by rfl) gy (by rfl) _ D _ hY Try.underlying31 (by rfl) hjf ?_)
          | fail)
        by_cases hnk : n < k
        · have hlt : n < l ∧ n < m := by have := HKL.out; omega
          obtain ⟨hnl, hnm⟩ := hlt
          have e1 : ¬ (l : Int) ≤ (n : Int) := by omega
          have e2 : ¬ (m : Int) ≤ (n : Int) := by omega
          have e1' : ¬ l ≤ n := by omega
          have e2' : ¬ m ≤ n := by omega
          have ra := inRow_pre HRA.out HB2.out
          have rb := inRow_pre HRB.out HB2.out
          obtain ⟨ga, oa, rfl, hga, cca⟩ := ra.2 (by rw [HLL.out]; omega)
          obtain ⟨gb, ob, rfl, hgb, ccb⟩ := rb.2 (by rw [HMM.out]; omega)
          have r1 := cca n (by rw [HLL.out]; exact hnl)
          have r2 := ccb n (by rw [HMM.out]; exact hnm)
          obtain ⟨C', LC'⟩ := let_of (stK sd ls (n + 1))
          obtain ⟨D', LD'⟩ := let_of (stK so os (n + 1))
          have pC := Lib.hid (fun W => step_any W (stK sd ls n) _ _ (inA ls n) (inA_lt ra.1 n) (stK_inv sd hs ls n) (by omega) (by omega) (by omega))
          have pD := Lib.hid (fun W => step_any W (stK so os n) _ _ (inA os n) (inA_lt rb.1 n) (stK_inv so ho os n) (by omega) (by omega) (by omega))
          unfold inV stV at pC pD
          rw [← LC.eq, show stepF (stK sd ls n) (inA ls n) = stK sd ls (n + 1) from rfl, ← LC'.eq] at pC
          rw [← LD.eq, show stepF (stK so os n) (inA os n) = stK so os (n + 1) from rfl, ← LD'.eq] at pD
          have hci := LC'.info
          have hdi := LD'.info
          have hc1 := LC'.one
          have hd1 := LD'.one
          have hCC : C.size = C'.size := by rw [LC.size, LC'.size]
          have hDD : D.size = D'.size := by rw [LD.size, LD'.size]
          have qx := cellsAt_regrown hX
          have qy := cellsAt_regrown hY
          have cA := regrown wr (v := .agg C') (fun W _ => pC.out W)
          have cB := regrown wr (v := .agg D') (fun W _ => pD.out W)
          have qa := cell_regrown xa
          have qb := cell_regrown ya
          have u0 := cell_regrown r1.1
          have u1 := cell_regrown r1.2
          have u2 := cell_regrown r2.1
          have u3 := cell_regrown r2.2
          have HXX := Lib.hid hX
          have HYY := Lib.hid hY
          have HC' := Lib.hid LC'
          have HD' := Lib.hid LD'
          have n0 : (0 : Int) ≤ (n : Int) := by omega
          have n1 : (n : Int) < (l : Int) := by omega
          have n2 : (n : Int) < (m : Int) := by omega
          clear LC LD LC' LD' cca ccb ra rb pC pD r1 r2 hX hY hEq hg hif hjf
          generalize inA ls n 0 = i0 at *
          generalize inA ls n 1 = i1 at *
          generalize inA os n 0 = j0 at *
          generalize inA os n 1 = j1 at *
          go_upto_region 10 with fail
          clear xa ya
          refine wp_region_below_tail 14 (by kernel_rfl) (by kernel_rfl) ?_
          simp only [List.take_succ_cons, List.take_zero, List.drop_succ_cons, List.drop_zero]
          iterate 6 (quiet_step (fail))
          quiet_step (exact cA _ _)
          iterate 6 (quiet_step (fail))
          quiet_step (exact cB _ _)
          refine wpQuiet_nil ?_
          intro W6 hw'
          have hb6 : Bw wr W6 := by
            obtain ⟨⟨dq, oq⟩, rfl⟩ := hw'
            exact below_regrown wr dq oq
          have X6 := Blk.go HXX.out hb6
          have Y6 := Blk.go HYY.out hb6
          have HB6 := Lib.hid (show Bw W1 W6 from Bw.go HB2.out hb6)
          have hgne := HGX.out
          clear hw' hb6 qx qy qa qb u0 u1 u2 u3 cA cB
          go_wp2_with (first
            | (refine wpList_store_blk (by rfl) 31 _ _ (by rfl) gx C' (by rfl) (by rfl) _ C X6 hci hCC hc1 ?_; intro W7 hd7 ht7; have Y7 := Blk.touch Y6 ht7 (by omega))
            | (refine wpList_store_blk (by rfl) 31 _ _ (by rfl) gy D' (by rfl) (by rfl) _ D Y7 hdi hDD hd1 ?_; intro W8 hd8 ht8)
            | fail)
          have X8 := Blk.touch hd7 ht8 (by omega)
          have b8 : Bw W1 W8 := Bw.touch (Bw.touch HB6.out ht7 (fun k hk => by omega)) ht8 (fun k hk => by omega)
          have HX8 := Lib.hid (HC'.out.sb X8)
          have HY8 := Lib.hid (HD'.out.sb hd8)
          have HB8 := Lib.hid b8
          clear X8 b8 hd7 ht7 hd8 ht8 X6 Y6 Y7 hgne
          go_wp2_with fail
          go_roundw
          case rel => exact ⟨n + 1, hnk, by go_num, HX8.out, HY8.out, HB8.out, by rw [show k + 1 - (n + 1) = k - n by omega]; exact HR.out⟩
          case measure => simp [intOf]; omega
        · have hnk' : n = k := by have := HN.out; omega
          have HRE := Lib.hid (show R = -1 by rw [HR.out, hnk', Nat.sub_self]; rfl)
          have hkl := HKL.out
          clear hX hY hEq hg hif hjf LC LD HN HR
          by_cases hnl : n = l
          · have e1 : (l : Int) ≤ (n : Int) := by omega
            have e1' : l ≤ n := by omega
            clear hkl hnk hnk'
            go_wp2_with fail
            go_ret
            exact ⟨by rw [← HRV.out, HRE.out]; rfl, Below.trans HB.out (Below.mono HB2.out HB.out.size)⟩
          · have e1 : ¬ (l : Int) ≤ (n : Int) := by omega
            have e1' : ¬ l ≤ n := by omega
            have e2 : (m : Int) ≤ (n : Int) := by omega
            have e2' : m ≤ n := by omega
            clear hkl hnk hnk' hnl
            go_wp2_with fail
            go_ret
            exact ⟨by rw [← HRV.out, HRE.out]; rfl, Below.trans HB.out (Below.mono HB2.out HB.out.size)⟩
      · have HR := Lib.hid (show R = (n : Int) by rw [hR]; exact fstF_yes hq)
        rw [hq] at hEq
        clear hR hq hn2
        go_wp2_with (first
          | (refine wpList_load_blk (by rfl) 31 _ (by rfl) gx (by rfl) _ C _ hX Try.underlying31 (by rfl) hif ?_)
          | (refine wpList_load_blk (by rfl) 31 _ (by rfl) gy (by rfl) _ D _ hY Try.underlying31 (by rfl) hjf ?_)
          | fail)
        go_ret
        exact ⟨by rw [← HRV.out, HR.out]; rfl, Below.trans HB.out (Below.mono HB2.out HB.out.size)⟩
end Go.Proofs.Ytlhoffhagfhbcaa.Dif
