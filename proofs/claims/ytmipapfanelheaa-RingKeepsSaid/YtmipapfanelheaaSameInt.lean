/-
  The law's Same at a ring of ints: it says yes where the document's ring is as the ring. Conditions: numbers without overflow.
-/
import Derived.Test.YtmipapfanelheaaRingIntD
import Derived.Test.YtmipapfanelheaaRef09
namespace Go.Proofs.Ytmipapfanelheaa
open Go.RowKit Go.Shelf Go.Sort
set_option linter.all false
attribute [local go_sem] Oper.semAt_some

theorem calls_of_wp_marks {P : Program} {f : FuncId} {fn : Func} {c : Code} {args : Array Value} {w : World} {R : Ending → World → Prop} (n : Nat)
    (hf : P.funcs[f]? = some fn) (hb : fn.body = some c)
    (h : c.wp P (bodyPostM Fence.wide n P fn R) { tmps := args ++ Array.replicate (fn.ntmps - args.size) undef, defers := [] } w) : Calls P f args w R :=
  (callsIn_wide (n := n)).1 (callsIn_of_wp_marks hf hb trivial (wpIn_wide.2 h) rfl)

/-- A contract that leaves what lay, in a world of the class. -/
theorem regrown {P : Program} {f : FuncId} {args : Array Value} {v : Value} (w : World)
    (h : ∀ W, Below w.heap.size w W → Calls P f args W fun e W' => e = .returned v ∧ Below W.heap.size W W') (d : Nat) (os : Array Obj) :
    Calls P f args (grow (redrawn w d) os) fun e w'' => e = .returned v ∧ ∃ p : Regrown, w'' = grow (redrawn w p.d) p.os := Calls.regrown_of (h _ (below_regrown w d os))
theorem below_drewN' (w : World) (n : Nat) : Below w.heap.size w (w.drewN n) := below_drewN (Below.refl _ w) n

theorem RingInt.At.below {w w' : World} {r : Nat} {room first : Int} {sv : Value} {l : List Int} (h : RingInt.At w r room first sv l) (hb : Below w.heap.size w w') : RingInt.At w' r room first sv l :=
  h.touch (Touch.of_below (S := noB) hb) (fun _ _ hn => hn)

theorem upto_snoc {α : Type} {f : Nat → α} {pre : List α} (hp : pre = RingInt.upto f pre.length) : pre ++ [f pre.length] = RingInt.upto f (pre ++ [f pre.length]).length := by
  rw [List.length_append, List.length_singleton, RingInt.upto_succ, ← hp]
theorem upto_not {α : Type} {f : Nat → α} {pre : List α} {x : α} (hx : x ≠ f pre.length) : pre ++ [x] ≠ RingInt.upto f (pre ++ [x]).length := by
  rw [List.length_append, List.length_singleton, RingInt.upto_succ]
  intro e
  have := (List.append_inj' e rfl).2
  simp at this
  exact hx this
namespace SameI
open RingInt Ref09
set_option maxRecDepth 100000 in
set_option maxHeartbeats 4000000 in
theorem same_any (w : World) (r : Nat) (room first : Int) (sv : Value) (l : List Int) (a : Option Addr) (c : Nat) (h : At w r room first sv l) (h0 : 0 ≤ first) (h1 : first + l.length ≤ 4611686018427387904)
    (hs : On w 3 1 (.slice a l.length c) l.length (l.map (.int .i64))) :
    Calls Try.prog 47 #[.pointer (some ⟨r, 0, none⟩), rv room first (.slice a l.length c)] w fun e w' => e = .returned (.bool true) ∧ Below w.heap.size w w' := by
  refine calls_of_wp_marks 9 Try.func47 rfl ?_
  simp only [Try.ntmps47, List.size_toArray, List.length_cons, List.length_nil, Nat.reduceAdd, Nat.reduceSub, Array.replicate_succ, Array.replicate_zero, List.push_toArray, List.append_toArray, List.nil_append, List.cons_append]
  unfold rv
  go_wp2
  obtain ⟨W1, hW1⟩ : ∃ W1 : World, W1 = (w.alloc (Obj.cells #[Value.int IntKind.i64 room, Value.int IntKind.i64 first, Value.slice a l.length c] 55)).alloc (Obj.cells #[Value.bool false] 4) := ⟨_, rfl⟩
  rw [← hW1]
  have hBox : Blk W1 w.heap.size 55 #[.int .i64 room, .int .i64 first, .slice a l.length c] := by rw [hW1]; exact (Blk.new _ _ _).alloc _
  have hRes : Blk W1 (w.heap.size + 1) 4 #[.bool false] := by
    have := Blk.new (w.alloc (Obj.cells #[Value.int IntKind.i64 room, Value.int IntKind.i64 first, Value.slice a l.length c] 55)) 4 #[.bool false]
    rw [World.size_alloc] at this; rw [hW1]; exact this
  have hz1 : W1.heap.size = w.heap.size + 2 := by rw [hW1]; simp
  have hB1 : Below w.heap.size w W1 := by rw [hW1]; exact ((Below.refl _ w).alloc (Nat.le_refl _) _).alloc (by simp) _
  have hA1 : At W1 r room first (sv) l := by rw [hW1]; exact (h.alloc _).alloc _
  have hs1 : On W1 3 1 (.slice a l.length c) l.length (l.map (.int .i64)) := by rw [hW1]; exact (hs.alloc _).alloc _
  have q0 := cell_regrown (hBox.cell 0)
  have q1 := cell_regrown (hBox.cell 1)
  have q2 := cell_regrown (hBox.cell 2)
  clear h hs hW1
  have cR := regrown W1 (v := .int .i64 room) (fun W hb => (room_any W r room first sv l (hA1.below hb)).mono (by rintro e w' ⟨rfl, rfl⟩; exact ⟨rfl, Below.refl _ _⟩))
  have cL := regrown W1 (v := .int .i64 l.length) (fun W hb => (len_any W r room first sv l (hA1.below hb)).mono (by rintro e w' ⟨rfl, rfl⟩; exact ⟨rfl, Below.refl _ _⟩))
  have cF := regrown W1 (v := .int .i64 first) (fun W hb => (first_any W r room first sv l (hA1.below hb)).mono (by rintro e w' ⟨rfl, rfl⟩; exact ⟨rfl, Below.refl _ _⟩))
  have cN := regrown W1 (v := .int .i64 (first + l.length)) (fun W hb => (RingInt.next_any W r room first sv l (hA1.below hb) h0 h1).mono (by rintro e w' ⟨rfl, n, rfl⟩; exact ⟨rfl, below_drewN' _ _⟩))
  have cM := regrown W1 (fun W _ => Ref09.next_any W room first a l.length c (by omega) h1)
  unfold rv at cM
  refine wp_region_quiet_below (by kernel_rfl) (by kernel_rfl) ?_
  repeat (quiet_step (first | exact cR _ _ | exact cL _ _ | exact cF _ _ | exact cN _ _ | exact cM _ _))
  refine wpQuiet_nil ?_
  intro W2 hw'
  obtain ⟨⟨dq, osq⟩, hw''⟩ := hw'
  have hb2 : Below W1.heap.size W1 W2 := by rw [hw'']; exact below_regrown _ _ _
  clear hw'' cR cL cF cN cM q0 q1 q2
  have hB2 := hB1.trans (hb2.mono (by omega))
  have hBox2 := hBox.below hb2 (by omega)
  have hRes2 := hRes.below hb2 (by omega)
  have hA2 := hA1.below hb2
  have hs2 : On W2 3 1 (.slice a l.length c) l.length (l.map (.int .i64)) := hs1.below hb2 (fun g hg => hs1.lt g hg)
  have hz2 := hb2.size
  have q0 := hBox2.cell 0
  have q1 := hBox2.cell 1
  have q2 := hBox2.cell 2
  clear hBox hRes hA1 hs1 hb2
  have hnf : ∀ (f : FuncId) (cs : Array Value) (W : World), Sem.run Try.prog (binOp .eql 97 (.func (.func f) #[] cs) .nilFunc) W = .ok (.bool false) W := by
    intro f cs W
    have h : ∀ d : Nat, Sem.run Try.prog (Op.equalIn (d + 1) 97 (.func (.func f) #[] cs) .nilFunc) W = .ok false W := fun d => by
      simp [Op.equalIn, run_underlying Try.underlying97, go_sem]
    have h' := h (Op.maxDepth - 1)
    simp only [binOp, Op.equal]
    rw [Sem.run_bind]
    erw [h']
    rfl
  have pA := Lib.hid (all_any W2 r)
  have pB := Lib.hid (fun W => back_any W r)
  go_wp2_with (first | (refine pA.out.mono ?_; rintro e w' ⟨rfl, rfl⟩) | (refine (pB.out _).mono ?_; rintro e w' ⟨rfl, rfl⟩))
  refine (wpIn_wide (n := 9)).1 ?_
  have hk2 : Blk (((W2.alloc (Obj.cells #[Value.pointer (some { block := r, off := 0 })] 53)).alloc (Obj.cells #[Value.pointer (some { block := r, off := 0 })] 53)).alloc (Obj.cells #[Value.int IntKind.i64 0] 3)) (W2.heap.size + 1 + 1) 3 #[.int .i64 0] := by
    have := Blk.new ((W2.alloc (Obj.cells #[Value.pointer (some { block := r, off := 0 })] 53)).alloc (Obj.cells #[Value.pointer (some { block := r, off := 0 })] 53)) 3 #[.int .i64 0]
    simpa only [World.size_alloc] using this
  have ha2 : Blk (((W2.alloc (Obj.cells #[Value.pointer (some { block := r, off := 0 })] 53)).alloc (Obj.cells #[Value.pointer (some { block := r, off := 0 })] 53)).alloc (Obj.cells #[Value.int IntKind.i64 0] 3)) W2.heap.size 53 #[Value.pointer (some { block := r, off := 0 })] := ((Blk.new W2 _ _).alloc _).alloc _
  have hb2 : Blk (((W2.alloc (Obj.cells #[Value.pointer (some { block := r, off := 0 })] 53)).alloc (Obj.cells #[Value.pointer (some { block := r, off := 0 })] 53)).alloc (Obj.cells #[Value.int IntKind.i64 0] 3)) (W2.heap.size + 1) 53 #[Value.pointer (some { block := r, off := 0 })] := by
    have := (Blk.new (W2.alloc (Obj.cells #[Value.pointer (some { block := r, off := 0 })] 53)) 53 #[Value.pointer (some { block := r, off := 0 })]).alloc (Obj.cells #[Value.int IntKind.i64 0] 3)
    simpa only [World.size_alloc] using this
  obtain ⟨W3, hW3⟩ : ∃ W3 : World, W3 = ((W2.alloc (Obj.cells #[Value.pointer (some { block := r, off := 0 })] 53)).alloc (Obj.cells #[Value.pointer (some { block := r, off := 0 })] 53)).alloc (Obj.cells #[Value.int IntKind.i64 0] 3) := ⟨_, rfl⟩
  rw [← hW3] at hk2 ha2 hb2 ⊢
  have hz3 : W3.heap.size = W2.heap.size + 3 := by rw [hW3]; simp
  have hB3 : Below w.heap.size w W3 := by rw [hW3]; exact hB2.trans (((((Below.refl _ W2).alloc (by omega) _).alloc (by simp; omega) _).alloc (by simp; omega) _))
  have hBox3 : Blk W3 w.heap.size 55 #[Value.int IntKind.i64 room, Value.int IntKind.i64 first, Value.slice a l.length c] := by rw [hW3]; exact ((hBox2.alloc _).alloc _).alloc _
  have hRes3 : Blk W3 (w.heap.size + 1) 4 #[.bool false] := by rw [hW3]; exact ((hRes2.alloc _).alloc _).alloc _
  have hA3 : At W3 r room first sv l := by rw [hW3]; exact ((hA2.alloc _).alloc _).alloc _
  have hs3 : On W3 3 1 (.slice a l.length c) l.length (l.map (.int .i64)) := by rw [hW3]; exact ((hs2.alloc _).alloc _).alloc _
  have hfp : ∀ k, fp r sv k → k < W2.heap.size := hA2.lt
  have hsl : ∀ g, (Value.slice a l.length c).ownBlock = some g → g < W2.heap.size := hs2.lt
  clear hW3 hBox2 hRes2 hA2 hs2 q0 q1 q2 pA pB
  have hown1 : OwnFrom W3.heap.size (fun (pre : List (Int × Int)) W => (pre = upto (allF first l) pre.length ∧ W.cell? ⟨W2.heap.size + 1 + 1, 0, none⟩ = some (.int .i64 (pre.length : Int)) ∧ W.frozen? ⟨W2.heap.size + 1 + 1, 0, none⟩ = false) ∧ Below (W2.heap.size + 2) W3 W) :=
    OwnFrom.and (Own.from (fun s A B row hs hg hr => ⟨hs.1, cell_kept hs.2.1 hg hr, (frozen_kept hs.2.1 hg hr).trans hs.2.2⟩) _) (ownFrom_below (by omega) (by omega))
  refine' wpIn_rangeFunc_ownF (F := Fence.wide) (n := 9) rfl (by omega) (gf := 53) (lb := #[.pointer (some ⟨W2.heap.size, 0, none⟩)]) rfl trivial (enters_of Try.func53 (by kernel_rfl) rfl)
    (all_stops Fence.wide 8 trivial rfl (by omega) W2.heap.size r (fun k => k < W2.heap.size + 2) room first sv l W3 (fun k hk => by omega) (ha2.cell 0) hA3 (fun k hk => by have := hfp k hk; omega) (by omega) h0 h1)
    keepB_t (keepB_b (m := W3.heap.size) (fun k hk => by omega)) (Below.refl _ _) (fun _ => rfl)
    (fun pre W => (pre = upto (allF first l) pre.length ∧ W.cell? ⟨W2.heap.size + 1 + 1, 0, none⟩ = some (.int .i64 (pre.length : Int)) ∧ W.frozen? ⟨W2.heap.size + 1 + 1, 0, none⟩ = false) ∧ Below (W2.heap.size + 2) W3 W)
    (fun c pre _ => pre ≠ upto (allF first l) pre.length) hown1 (fun _ _ _ _ _ hs _ _ => hs) ⟨⟨rfl, hk2.cell 0, hk2.frozen 0⟩, Below.refl _ _⟩ _ ?assign ?body ?done ?stop
  case assign =>
    intro l' x W K hK
    dsimp only [encs]
    gi_wp2
    exact hK
  case stop =>
    rintro D c pre W hD ⟨k, hk, rfl⟩ hne _
    exact absurd (by rw [upto_length]) hne
  case body =>
    rintro l' pre ⟨xn, xv⟩ W ⟨⟨hp, hk, hf⟩, hB⟩ hlt
    have hbox := hBox3.below hB (by omega)
    have q1 := hbox.cell 1
    have q2 := hbox.cell 2
    have hres := hRes3.below hB (by omega)
    have hr1 := hres.cell 0
    have hr2 := hres.frozen 0
    obtain ⟨g, cap, e1, hg⟩ := (hs3.below hB (fun g hg => by have := hsl g hg; omega)).ints (by omega)
    cases e1
    have hcj := hg pre.length hlt
    have hi0 : (0 : Int) ≤ (pre.length : Int) := by omega
    have hi1 : (pre.length : Int) < (l.length : Int) := by omega
    have hsm : first + (pre.length : Int) ≤ 4611686018427387904 := by omega
    have HP := Lib.hid hp
    clear hp hg hbox hres hBox3 hRes3 hA3 hs3
    have hset : ∀ {v}, Below (W2.heap.size + 2) W (W.setCell ⟨W2.heap.size + 1 + 1, 0, none⟩ v) := fun {v} => (Below.refl _ W).setCell (p := ⟨W2.heap.size + 1 + 1, 0, none⟩) (by simp) _
    by_cases c1 : xn = first + (pre.length : Int)
    · subst c1
      by_cases c2 : xv = nth l pre.length
      · subst c2
        gi_wp2
        refine ⟨KeepsOthers.setCell _ _ _, fun k hk => hset.block k hk, ⟨upto_snoc HP.out, ?_, by rw [World.frozen?_setCell]; exact hf⟩, hB.setCell (p := ⟨W2.heap.size + 1 + 1, 0, none⟩) (by simp) _⟩
        simp only [List.length_append, List.length_singleton, Int.natCast_add, Int.natCast_one]
        exact World.cell?_setCell_same' _ _ _ (by rw [hk]; rfl)
      · have hne := Lib.hid (upto_not (f := allF first l) (pre := pre) (x := (first + (pre.length : Int), xv)) (fun e => c2 (Prod.mk.inj e).2))
        gi_wp2
        all_goals first | (exfalso; simp_all; done) | exact ⟨KeepsOthers.setCell _ _ _, hne.out⟩
    · have hne := Lib.hid (upto_not (f := allF first l) (pre := pre) (x := (xn, xv)) (fun e => c1 (Prod.mk.inj e).1))
      gi_wp2
      all_goals first | (rename_i hx; exact absurd (by simpa using hx) c1) | exact ⟨KeepsOthers.setCell _ _ _, hne.out⟩
  case done =>
    rintro D ys W hD rfl ⟨⟨_, hk, hf⟩, hB⟩ hK
    rw [upto_length] at hk
    have hbox := hBox3.below hB (by omega)
    have q0 := hbox.cell 0
    have q1 := hbox.cell 1
    have q2 := hbox.cell 2
    have hres := hRes3.below hB (by omega)
    have hA := hA3.keep (K := fun k => k < W2.heap.size + 2) (fun k hk => hB.block k hk) (fun k hk => by have := hfp k hk; omega)
    have hbb := hb2.below hB (by omega)
    have hs := hs3.below hB (fun g hg => by have := hsl g hg; omega)
    have hzW := hB.size
    have hBw := hB3.trans (hB.mono (by omega))
    clear hBox3 hRes3 hA3 hs3 hb2 ha2 hk2 hB hown1
    go_wp2
    refine (wpIn_wide (n := 9)).1 ?_
    have hi4 : Blk (W.alloc (Obj.cells #[Value.int IntKind.i64 (l.length : Int)] 3)) W.heap.size 3 #[.int .i64 (l.length : Int)] := Blk.new _ _ _
    obtain ⟨W4, hW4⟩ : ∃ W4 : World, W4 = W.alloc (Obj.cells #[Value.int IntKind.i64 (l.length : Int)] 3) := ⟨_, rfl⟩
    rw [← hW4] at hi4 ⊢
    have hz4 : W4.heap.size = W.heap.size + 1 := by rw [hW4]; simp
    have hB4 : Below W.heap.size W W4 := by rw [hW4]; exact (Below.refl _ W).alloc (Nat.le_refl _) _
    have hbox4 := hbox.below hB4 (by omega)
    have hres4 := hres.below hB4 (by omega)
    have hbb4 := hbb.below hB4 (by omega)
    have hA4 := hA.below hB4
    have hs4 : On W4 3 1 (.slice a l.length c) l.length (l.map (.int .i64)) := hs.below hB4 (fun g hg => by have := hsl g hg; omega)
    have hk4 : W4.cell? ⟨W2.heap.size + 1 + 1, 0, none⟩ = some (.int .i64 (l.length : Int)) := (hB4.cell (p := ⟨W2.heap.size + 1 + 1, 0, none⟩) (by simp; omega)).trans hk
    have hDlt := lt_of_heap hK
    have hK4 : W4.heap[D]? = some (Obj.deferred (some [])) := (hB4.block D hDlt).trans hK
    clear hW4 hbox hres hbb hA hs hk hf hK q0 q1 q2
    have hown2 : OwnFrom W4.heap.size (fun (pre : List (Int × Int)) W' => (pre = upto (backF first l) pre.length ∧ W'.cell? ⟨W.heap.size, 0, none⟩ = some (.int .i64 ((l.length : Int) - (pre.length : Int))) ∧ W'.frozen? ⟨W.heap.size, 0, none⟩ = false) ∧ Below W.heap.size W4 W') :=
      OwnFrom.and (Own.from (fun s A B row hs hg hr => ⟨hs.1, cell_kept hs.2.1 hg hr, (frozen_kept hs.2.1 hg hr).trans hs.2.2⟩) _) (ownFrom_below (by omega) (by omega))
    refine' wpIn_rangeFunc_ownF (F := Fence.wide) (n := 9) rfl (by omega) (gf := 54) (lb := #[.pointer (some ⟨W2.heap.size + 1, 0, none⟩)]) rfl trivial (enters_of Try.func54 (by kernel_rfl) rfl)
      (back_stops 8 (by omega) (W2.heap.size + 1) r (fun k => k < W2.heap.size + 2) room first sv l W4 (fun k hk => by omega) (hbb4.cell 0) hA4 (fun k hk => by have := hfp k hk; omega) (by omega) h0 h1)
      keepB_t (keepB_b (m := W4.heap.size) (fun k hk => by omega)) (Below.refl _ _) (fun _ => rfl)
      (fun pre W' => (pre = upto (backF first l) pre.length ∧ W'.cell? ⟨W.heap.size, 0, none⟩ = some (.int .i64 ((l.length : Int) - (pre.length : Int))) ∧ W'.frozen? ⟨W.heap.size, 0, none⟩ = false) ∧ Below W.heap.size W4 W')
      (fun c pre _ => pre ≠ upto (backF first l) pre.length) hown2 (fun _ _ _ _ _ hs _ _ => hs) ⟨⟨rfl, by simpa using hi4.cell 0, hi4.frozen 0⟩, Below.refl _ _⟩ _ ?assign2 ?body2 ?done2 ?stop2
    case assign2 =>
      intro l' x W K hK
      dsimp only [encs]
      gi_wp2
      exact hK
    case stop2 =>
      rintro D c pre W hD ⟨k, hk, rfl⟩ hne _
      exact absurd (by rw [upto_length]) hne
    case body2 =>
      rintro l' pre ⟨xn, xv⟩ W5 ⟨⟨hp, hk, hf⟩, hB⟩ hlt
      have hbox := hbox4.below hB (by omega)
      have q1 := hbox.cell 1
      have q2 := hbox.cell 2
      have hres := hres4.below hB (by omega)
      have hr1 := hres.cell 0
      have hr2 := hres.frozen 0
      obtain ⟨g, cap, e1, hg⟩ := (hs4.below hB (fun g hg => by have := hsl g hg; omega)).ints (by omega)
      cases e1
      obtain ⟨j, hj⟩ : ∃ j : Nat, l.length - 1 - pre.length = j := ⟨_, rfl⟩
      have hjl : j < l.length := by omega
      have hcj := hg j hjl
      have ej : (l.length : Int) - (pre.length : Int) = (j : Int) + 1 := by omega
      rw [ej] at hk
      have hi0 : (0 : Int) ≤ (j : Int) := by omega
      have hi1 : (j : Int) < (l.length : Int) := by omega
      have hsm : first + (j : Int) ≤ 4611686018427387904 := by omega
      have hgn : g ≠ W.heap.size := by have := hsl g rfl; omega
      have HP := Lib.hid hp
      have HF : Hid (backF first l pre.length = (first + (j : Int), nth l j)) := Lib.hid (by rw [backF, hj])
      have EJ := Lib.hid ej
      have hset : ∀ {v}, Below W.heap.size W5 (W5.setCell ⟨W.heap.size, 0, none⟩ v) := fun {v} => (Below.refl _ W5).setCell (p := ⟨W.heap.size, 0, none⟩) (by simp) _
      clear hp hg hbox hres hbox4 hres4 hA4 hs4 hj ej hbb4 hi4
      by_cases c1 : xn = first + (j : Int)
      · subst c1
        by_cases c2 : xv = nth l j
        · subst c2
          have hsn := Lib.hid (upto_snoc HP.out)
          rw [HF.out] at hsn
          gi_wp2
          refine ⟨KeepsOthers.setCell _ _ _, fun k hk => hset.block k (by omega), ⟨hsn.out, ?_, by rw [World.frozen?_setCell]; exact hf⟩, hB.setCell (p := ⟨W.heap.size, 0, none⟩) (by simp) _⟩
          have := EJ.out
          rw [show (l.length : Int) - ((pre ++ [(first + (j : Int), nth l j)]).length : Int) = (j : Int) by simp; omega]
          exact World.cell?_setCell_same' _ _ _ (by rw [hk]; rfl)
        · have hne := Lib.hid (upto_not (f := backF first l) (pre := pre) (x := (first + (j : Int), xv)) (by rw [HF.out]; exact (fun e => c2 (Prod.mk.inj e).2)))
          gi_wp2
          all_goals first | (exfalso; simp_all; done) | exact ⟨(KeepsOthers.setCell _ _ _).trans (KeepsOthers.setCell _ _ _), hne.out⟩
      · have hne := Lib.hid (upto_not (f := backF first l) (pre := pre) (x := (xn, xv)) (by rw [HF.out]; exact (fun e => c1 (Prod.mk.inj e).1)))
        gi_wp2
        all_goals first | (exfalso; simp_all; done) | exact ⟨(KeepsOthers.setCell _ _ _).trans (KeepsOthers.setCell _ _ _), hne.out⟩
    case done2 =>
      rintro D2 ys W5 hD2 rfl ⟨⟨_, hk5, hf5⟩, hB5⟩ hK5
      rw [upto_length, Int.sub_self] at hk5
      have hbox := hbox4.below hB5 (by omega)
      have q2 := hbox.cell 2
      have hres := hres4.below hB5 (by omega)
      have hr1 := hres.cell 0
      have hr2 := hres.frozen 0
      have hk := (hB5.cell (p := ⟨W2.heap.size + 1 + 1, 0, none⟩) (by simp; omega)).trans hk4
      have hKD : W5.heap[D]? = some (Obj.deferred (some [])) := (hB5.block D (by omega)).trans hK4
      clear hbox hres hbox4 hres4 hA4 hs4 hbb4 hi4 hown2
      go_wp2
      have hD5 := lt_of_heap hKD
      have hK5' : (W5.setCell ⟨w.heap.size + 1, 0, none⟩ (.bool true)).heap[D2]? = some (Obj.deferred (some [])) := (KeepsOthers.setCell W5 ⟨w.heap.size + 1, 0, none⟩ (.bool true)).same D2 _ hK5 rfl
      have hKD' : (W5.setCell ⟨w.heap.size + 1, 0, none⟩ (.bool true)).heap[D]? = some (Obj.deferred (some [])) := (KeepsOthers.setCell W5 ⟨w.heap.size + 1, 0, none⟩ (.bool true)).same D _ hKD rfl
      have hc0 := World.cell?_setCell_same' W5 ⟨w.heap.size + 1, 0, none⟩ (.bool true) (by rw [hr1]; rfl)
      have hB6 : Below w.heap.size w (W5.setCell ⟨w.heap.size + 1, 0, none⟩ (.bool true)) := (hBw.trans ((hB4.mono (by omega)).trans (hB5.mono (by omega)))).setCell (p := ⟨w.heap.size + 1, 0, none⟩) (by simp) _
      obtain ⟨W6, hW6⟩ : ∃ W6, W6 = W5.setCell ⟨w.heap.size + 1, 0, none⟩ (.bool true) := ⟨_, rfl⟩
      rw [← hW6] at hK5' hKD' hc0 hB6 ⊢
      have hKD2 : (W6.putObj D2 (.deferred none)).heap[D]? = some (Obj.deferred (some [])) := (World.putObj_heap_other (by omega)).trans hKD'
      refine ⟨by simp, .inl ⟨_, _, rfl, run_takeDeferred hK5', ?_⟩⟩
      refine ⟨by simp, .inl ⟨_, _, rfl, run_takeDeferred hKD2, ?_⟩⟩
      have hc1 := cell_kept hc0 (grownBy_putObj' _ D2 (.deferred none)) (fun r e => by cases e; exact ⟨_, hK5', rfl⟩)
      have hc2 := cell_kept hc1 (grownBy_putObj' _ D (.deferred none)) (fun r e => by cases e; exact ⟨_, hKD2, rfl⟩)
      refine ⟨.bool true, ?_, rfl, (hB6.trans (belowK_b (w := w) (Nat.le_refl _) _ D2 _ _ (by omega) hK5' rfl rfl)).trans (belowK_b (w := w) (Nat.le_refl _) _ D _ _ (by omega) hKD2 rfl rfl)⟩
      simp [results, Try.f47, go_sem, hc2]
end SameI
end Go.Proofs.Ytmipapfanelheaa
