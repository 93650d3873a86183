/-
  backstaylaw24.same: it says yes where the saved states are the document's. Conditions: numbers without overflow; the document's list lies in memory.
-/
import Derived.Test.YtblnfkhaicjeaaaSavE
import Derived.Test.YtblnfkhaicjeaaaSavOR
import Derived.Test.YtblnfkhaicjeaaaNetG
namespace Go.Proofs.Ytblnfkhaicjeaaa.Sav
open Go.RowKit Go.Sort Go.Shelf Go.Proofs.Ytblnfkhaicjeaaa.Gm Go.Proofs.Ytblnfkhaicjeaaa.RingE
set_option linter.all false
attribute [local go_sem] Oper.semAt_some

/-- A contract that leaves what lay, in a world of the class. -/
theorem regrown {P : Program} {f : FuncId} {args : Array Value} {v : Value} (w : World)
    (h : ∀ W, Below w.heap.size w W → Calls P f args W fun e W' => e = .returned v ∧ Below W.heap.size W W') (d : Nat) (os : Array Obj) :
    Calls P f args (grow (redrawn w d) os) fun e w'' => e = .returned v ∧ ∃ p : Regrown, w'' = grow (redrawn w p.d) p.os := Calls.regrown_of (h _ (below_regrown w d os))
theorem upto_snoc {α : Type} {f : Nat → α} {pre : List α} (hp : pre = upto f pre.length) : pre ++ [f pre.length] = upto f (pre ++ [f pre.length]).length := by
  rw [List.length_append, List.length_singleton, upto_succ, ← hp]
theorem upto_not {α : Type} {f : Nat → α} {pre : List α} {x : α} (hx : x ≠ f pre.length) : pre ++ [x] ≠ upto f (pre ++ [x]).length := by
  rw [List.length_append, List.length_singleton, upto_succ]
  intro e
  have := (List.append_inj' e rfl).2
  simp at this
  exact hx this

theorem ntAt_map (fs : List F) (i : Nat) (hi : i < fs.length) : ntAt (fs.map tag) i = tag fs[i] := by
  unfold ntAt
  rw [List.getD_eq_getElem?_getD, List.getElem?_map, List.getElem?_eq_getElem hi, Option.map_some, Option.getD_some]
theorem sumF_map (first : Int) (fs : List F) (j : Nat) (hj : j < fs.length) : sumF first (fs.map tag) j = (first + ((fs.length - 1 - j : Nat) : Int), sumL (stB (fs[fs.length - 1 - j]'(by omega)))) := by
  unfold sumF hS backF
  rw [List.length_map, ntAt_map fs (fs.length - 1 - j) (by omega)]
  dsimp only [tag]

theorem keepS_refl {K : Nat → Prop} {B : Nat} (A : World) : KeepS K B A A := ⟨keepB_refl _, Nat.le_refl _, fun _ _ _ => rfl⟩
theorem keepS_set {K : Nat → Prop} {B : Nat} {A C : World} (h : KeepS K B A C) {p : Addr} (hp : ¬ K p.block) (hB : p.block < B) (v : Value) : KeepS K B A (C.setCell p v) :=
  keepS_t h ⟨fun k hk => Below.heap_setCell C p v k (fun e => hp (e ▸ hk)), by simp, fun k hk _ => Below.heap_setCell C p v k (by omega)⟩
theorem keepS_below {K : Nat → Prop} {B : Nat} {A C D : World} (h : KeepS K B A C) (hb : Below C.heap.size C D) (hK : ∀ k, K k → k < C.heap.size) : KeepS K B A D :=
  keepS_t h ⟨fun k hk => hb.block k (hK k hk), hb.size, fun k _ hl => hb.block k hl⟩

set_option maxRecDepth 100000 in
set_option maxHeartbeats 4000000 in
theorem same_any (w : World) (g r : Nat) (room first : Int) (sv : Value) (a : Option Addr) (fs : List F) (cap : Nat) (h : SA w g r room first sv (fs.map tag)) (hrow : StRow w a fs) (hc : fs.length ≤ cap) (hm : cap ≤ maxLen) (h0 : 0 ≤ first) (h1 : first + fs.length ≤ 4611686018427387904) :
    Calls Try.prog 87 #[.pointer (some ⟨g, 0, none⟩), refV room first a fs.length cap] w fun e w' => e = .returned (.bool true) ∧ Below w.heap.size w w' := by
  refine calls_of_wp_marks 9 Try.func87 rfl ?_
  simp only [Try.ntmps87, List.size_toArray, List.length_cons, List.length_nil, Nat.reduceAdd, Nat.reduceSub, Array.replicate_succ, Array.replicate_zero, List.push_toArray, List.append_toArray, List.nil_append, List.cons_append]
  unfold refV
  obtain ⟨W1, hW1⟩ : ∃ W1 : World, W1 = (w.alloc (Obj.cells #[Value.int IntKind.i64 room, Value.int IntKind.i64 first, Value.slice a fs.length cap] 71)).alloc (Obj.cells #[Value.bool false] 4) := ⟨_, rfl⟩
  go_upto_region 1 with fail
  rw [← hW1]
  have hBox : Blk W1 w.heap.size 71 #[.int .i64 room, .int .i64 first, .slice a fs.length cap] := by rw [hW1]; exact (Blk.new _ _ _).alloc _
  have hRes : Blk W1 (w.heap.size + 1) 4 #[.bool false] := by
    have := Blk.new (w.alloc (Obj.cells #[Value.int IntKind.i64 room, Value.int IntKind.i64 first, Value.slice a fs.length cap] 71)) 4 #[.bool false]
    rw [World.size_alloc] at this; rw [hW1]; exact this
  have hz1 : W1.heap.size = w.heap.size + 2 := by rw [hW1]; simp
  have hB1 : Below w.heap.size w W1 := by rw [hW1]; exact ((Below.refl _ w).alloc (Nat.le_refl _) _).alloc (by simp) _
  have hA1 := h.below hB1
  have hs1 := hrow.below hB1
  have hfp : ∀ k, fp r sv k → k < w.heap.size := h.2.lt
  have hgl : g < w.heap.size := Blk.lt h.1
  have q0 := cell_regrown (hBox.cell 0)
  have q1 := cell_regrown (hBox.cell 1)
  have q2 := cell_regrown (hBox.cell 2)
  have hll : (fs.map tag).length = fs.length := by simp
  clear h hW1
  have h1' : first + ((fs.map tag).length : Int) ≤ 4611686018427387904 := by rw [hll]; exact h1
  have cL := regrown W1 (v := .int .i64 fs.length) (fun W hb => (slen_any W g r room first sv _ (hA1.below hb)).mono (by rintro e w' ⟨rfl, rfl⟩; exact ⟨by rw [hll], Below.refl _ _⟩))
  have cF := regrown W1 (v := .int .i64 first) (fun W hb => (sfirst_any W g r room first sv _ (hA1.below hb)).mono (by rintro e w' ⟨rfl, rfl⟩; exact ⟨rfl, Below.refl _ _⟩))
  have cN := regrown W1 (v := .int .i64 (first + fs.length)) (fun W hb => (snext_any W g r room first sv _ (hA1.below hb) h0 h1').mono (by rintro e w' ⟨rfl, n, rfl⟩; exact ⟨by rw [hll], below_drewN (Below.refl _ _) _⟩))
  have cM := regrown W1 (fun W _ => rnext_any W room first a fs.length cap h0 h1)
  unfold refV at cM
  refine wp_region_quiet_below (by kernel_rfl) (by kernel_rfl) ?_
  repeat (quiet_step (first | exact cL _ _ | exact cF _ _ | exact cN _ _ | exact cM _ _))
  refine wpQuiet_nil ?_
  intro W2 hw'
  obtain ⟨⟨dq, osq⟩, hw''⟩ := hw'
  have hb2 : Below W1.heap.size W1 W2 := by rw [hw'']; exact below_regrown _ _ _
  clear hw'' cL cF cN cM q0 q1 q2
  have hB2 := hB1.trans (hb2.mono (by omega))
  have hBox2 := hBox.below hb2 (by omega)
  have hRes2 := hRes.below hb2 (by omega)
  have hA2 := hA1.below hb2
  have hs2 := hs1.below hb2
  have hz2 := hb2.size
  clear hBox hRes hA1 hs1 hb2
  have hnf : ∀ (f : FuncId) (cs : Array Value) (W : World), Sem.run Try.prog (binOp .eql 108 (.func (.func f) #[] cs) .nilFunc) W = .ok (.bool false) W := by
    intro f cs W
    have h : ∀ d : Nat, Sem.run Try.prog (Op.equalIn (d + 1) 108 (.func (.func f) #[] cs) .nilFunc) W = .ok false W := fun d => by
      simp [Op.equalIn, run_underlying Try.underlying108, go_sem]
    have h' := h (Op.maxDepth - 1)
    simp only [binOp, Op.equal]
    rw [Sem.run_bind]
    erw [h']
    rfl
  obtain ⟨W3, hW3⟩ : ∃ W3 : World, W3 = W2.alloc (.cells #[.pointer (some ⟨g, 0, none⟩)] 69) := ⟨_, rfl⟩
  have pS := Lib.hid (sums_any W2 g)
  have hb3 : Below W2.heap.size W2 W3 := by rw [hW3]; exact (Below.refl _ W2).alloc (Nat.le_refl _) _
  have hz3 : W3.heap.size = W2.heap.size + 1 := by rw [hW3]; simp
  have hbx3 : Blk W3 W2.heap.size 69 #[.pointer (some ⟨g, 0, none⟩)] := by rw [hW3]; exact Blk.new _ _ _
  have hBox3 := hBox2.below hb3 (by omega)
  have q0 := hBox3.cell 0
  have q1 := hBox3.cell 1
  have q2 := hBox3.cell 2
  have pM := Lib.hid (rnext_any W3 room first a fs.length cap h0 h1)
  unfold refV at pM
  go_wp2_with fail
  refine pS.out.mono ?_
  rintro e w' ⟨rfl, hw'⟩
  obtain rfl : w' = W3 := hw'.symm.trans hW3.symm
  clear hw' hW3
  go_wp2_with fail
  refine pM.out.mono ?_
  rintro e W4 ⟨rfl, hb4⟩
  obtain ⟨W5, hW5⟩ : ∃ W5 : World, W5 = W4.alloc (Obj.cells #[Value.int IntKind.i64 (first + (fs.length : Int))] 3) := ⟨_, rfl⟩
  go_wp2_with fail
  rw [← hW5]
  refine (wpIn_wide (n := 9)).1 ?_
  have hz4 := hb4.size
  have hz5 : W5.heap.size = W4.heap.size + 1 := by rw [hW5]; simp
  have hb5 : Below W4.heap.size W4 W5 := by rw [hW5]; exact (Below.refl _ W4).alloc (Nat.le_refl _) _
  have hn5 : Blk W5 W4.heap.size 3 #[.int .i64 (first + (fs.length : Int))] := by rw [hW5]; exact Blk.new _ _ _
  have hbx5 : Blk W5 W2.heap.size 69 #[.pointer (some ⟨g, 0, none⟩)] := (hbx3.below hb4 (by omega)).below hb5 (by omega)
  have hBox5 := (hBox3.below hb4 (by omega)).below hb5 (by omega)
  have hRes5 := ((hRes2.below hb3 (by omega)).below hb4 (by omega)).below hb5 (by omega)
  have hA5 := ((hA2.below hb3).below hb4).below hb5
  have hs5 := ((hs2.below hb3).below hb4).below hb5
  have hB5 : Below w.heap.size w W5 := ((hB2.trans (hb3.mono (by omega))).trans (hb4.mono (by omega))).trans (hb5.mono (by omega))
  clear hW5 hBox2 hRes2 hA2 hs2 hB2 hbx3 hBox3 q0 q1 q2 pS pM hb3 hb4 hb5 hB1
  obtain ⟨K, hK⟩ : ∃ K : Nat → Prop, K = fun k => k < w.heap.size ∨ k = W2.heap.size := ⟨_, rfl⟩
  have hKl : ∀ k, K k → k < W4.heap.size := fun k hk => by rw [hK] at hk; rcases hk with h | h <;> omega
  have hKw : ∀ k, k < w.heap.size → K k := fun k hk => by rw [hK]; exact .inl hk
  have hK2 : K W2.heap.size := by rw [hK]; exact .inr rfl
  obtain ⟨S, hS⟩ : ∃ S : Nat → Int × Int, S = sumF first (fs.map tag) := ⟨_, rfl⟩
  have hSj : ∀ j, (hj : j < fs.length) → S j = (first + ((fs.length - 1 - j : Nat) : Int), sumL (stB (fs[fs.length - 1 - j]'(by omega)))) := fun j hj => by
    rw [hS]
    exact sumF_map first fs j hj
  have hown1 : OwnFrom W5.heap.size (fun (pre : List (Int × Int)) W => (pre = upto S pre.length ∧ W.cell? ⟨W4.heap.size, 0, none⟩ = some (.int .i64 (first + (fs.length : Int) - (pre.length : Int))) ∧ W.frozen? ⟨W4.heap.size, 0, none⟩ = false) ∧ Below W4.heap.size W5 W) :=
    OwnFrom.and (Own.from (fun s A B row hs hg hr => ⟨hs.1, cell_kept hs.2.1 hg hr, (frozen_kept hs.2.1 hg hr).trans hs.2.2⟩) _) (ownFrom_below (by omega) (by omega))
  refine' range_out (F := Fence.wide) (n := 9) rfl (by omega) (gf := 138) (lb := #[.pointer (some ⟨W2.heap.size, 0, none⟩)]) rfl trivial (enters_of Try.func138 (by kernel_rfl) rfl)
    (encs := encsS) (Kp := KeepS K (W5.heap.size + 2)) (S := fun ys => ys = upto S fs.length) (Sp := fun pre => ∃ k, k ≤ fs.length ∧ pre = upto S k) (N := fs.length)
    (fun V J Jx hb hz hJ hJx hY hJ0 => by
      have q := sums1_in (W5.heap.size + 1) W2.heap.size g r K room first sv (fs.map tag) J Jx V (by rw [hz, hll]; exact hY) (fun k hk => by have := hKl k hk; omega) ((hbx5.below hb (by omega)).cell 0) hK2 (hA5.below hb) (fun k hk => hKw k (hfp k hk)) (hKw g hgl) h0 h1' (by rw [hz]; exact hJ) (by rw [hz]; exact hJx) hJ0
      rw [hll, ← hS] at q
      exact q)
    keepS_t (keepS_put (m := W5.heap.size + 1) (fun k hk => by have := hKl k hk; omega) (by omega)) (fun _ => rfl)
    (fun pre W => (pre = upto S pre.length ∧ W.cell? ⟨W4.heap.size, 0, none⟩ = some (.int .i64 (first + (fs.length : Int) - (pre.length : Int))) ∧ W.frozen? ⟨W4.heap.size, 0, none⟩ = false) ∧ Below W4.heap.size W5 W)
    (fun pre _ => pre ≠ upto S pre.length) hown1 (fun _ _ _ _ hs _ _ => hs) ⟨⟨rfl, by simpa using hn5.cell 0, hn5.frozen 0⟩, Below.refl _ _⟩ _ ?assign ?body ?done ?stop
  case assign =>
    intro l' x W K hK
    dsimp only [encsS]
    gi_wp2
    exact hK
  case stop =>
    rintro D pre W hD ⟨k, hk, rfl⟩ hne _
    exact absurd (by rw [upto_length]) hne
  case body =>
    rintro l' pre ⟨xn, xs⟩ W ⟨⟨hp, hk, hf⟩, hB⟩ hlt
    have hbox := hBox5.below hB (by omega)
    have q0 := hbox.cell 0
    have q1 := hbox.cell 1
    have q2 := hbox.cell 2
    have hres := hRes5.below hB (by omega)
    have hr1 := hres.cell 0
    have hr2 := hres.frozen 0
    obtain ⟨j, hj⟩ : ∃ j : Nat, fs.length - 1 - pre.length = j := ⟨_, rfl⟩
    have hjl : j < fs.length := by omega
    have hSp := hSj pre.length hlt
    simp only [hj] at hSp
    have ej : first + (fs.length : Int) - (pre.length : Int) = first + (j : Int) + 1 := by omega
    rw [ej] at hk
    have hi0 : (0 : Int) ≤ (j : Int) := by omega
    have hi1 : (j : Int) < (fs.length : Int) := by omega
    have hsm : first + (j : Int) + 1 ≤ 4611686018427387904 := by omega
    have hw1 : IntKind.i64.wrap (first + (j : Int) + 1 - 1) = first + (j : Int) := by rw [Int.add_sub_cancel]; exact IntWalk.i64_in _ (by omega)
    have hset : ∀ {v}, Below W4.heap.size W (W.setCell ⟨W4.heap.size, 0, none⟩ v) := fun {v} => (Below.refl _ W).setCell (p := ⟨W4.heap.size, 0, none⟩) (by simp) _
    have hBW : Below w.heap.size w (W.setCell ⟨W4.heap.size, 0, none⟩ (.int .i64 (first + (j : Int)))) := (hB5.trans (hB.mono (by omega))).setCell (p := ⟨W4.heap.size, 0, none⟩) (by show w.heap.size ≤ W4.heap.size; omega) _
    have hsW := hrow.below hBW
    have pSum := Lib.hid (rfsum_any _ room first a fs cap j hsW hjl hc hm h0 h1)
    unfold refV at pSum
    generalize sumL (stB fs[j]) = sj at *
    have HLW := Lib.hid (show w.heap.size + 1 < W5.heap.size + 2 by omega)
    have HP := Lib.hid hp
    have EJ := Lib.hid ej
    have HSP := Lib.hid hSp
    have hWs := hB.size
    have hKW : ∀ k, K k → k < W.heap.size := fun k hk => by have := hKl k hk; omega
    have HK := Lib.hid (show ¬ K (w.heap.size + 1) by rw [hK]; omega)
    have HK4 := Lib.hid (show ¬ K W4.heap.size from fun h => Nat.lt_irrefl _ (hKl _ h))
    have HS1 : Hid (KeepS K (W5.heap.size + 2) W (W.setCell ⟨W4.heap.size, 0, none⟩ (.int .i64 (first + (j : Int))))) := Lib.hid (keepS_set (keepS_refl W) HK4.out (by show W4.heap.size < W5.heap.size + 2; omega) _)
    have HF1 : Hid (KeepsFrom W5.heap.size W (W.setCell ⟨W4.heap.size, 0, none⟩ (.int .i64 (first + (j : Int))))) := Lib.hid ((KeepsOthers.setCell _ _ _).from _)
    have HRS := Lib.hid (Blk.far hres (p := ⟨W4.heap.size, 0, none⟩) (by show w.heap.size + 1 ≠ W4.heap.size; omega) (.int .i64 (first + (j : Int))))
    clear hp hbox hres hBox5 hRes5 hA5 hs5 hrow hj ej hSp hSj hS hK hsW hBW hn5 hbx5 hown1
    have hW4l : W4.heap.size < W.heap.size := by omega
    have hn1 : ¬ w.heap.size = W4.heap.size := by omega
    have hn2 : ¬ w.heap.size + 1 = W4.heap.size := by omega
    have hn3 : ¬ W4.heap.size = w.heap.size := by omega
    have hn4 : ¬ W4.heap.size = w.heap.size + 1 := by omega
    have hz5' := Lib.hid hz5
    have hz3' := Lib.hid hz3
    clear hz5 hz3 hz1
    by_cases c1 : xn = first + (j : Int)
    · subst c1
      by_cases c2 : xs = sj
      · subst c2
        have hsn := Lib.hid (upto_snoc HP.out)
        rw [HSP.out] at hsn
        gi_wp2_with (first | (refine And.intro (show Fence.wide.fn _ from trivial) ?_) | (gi_at_call 39; refine (CallsIn.inRound l' ((callsIn_wide (n := _)).2 pSum.out)).mono ?_; rintro e W6 ⟨rfl, hb6⟩; have hres6 := HRS.out.below hb6 HRS.out.lt; have r1 := hres6.cell 0; have r2 := hres6.frozen 0; have hB6 := Lib.hid hb6; clear hb6 hres6) | fail)
        have hVs : (W.setCell ⟨W4.heap.size, 0, none⟩ (.int .i64 (first + (j : Int)))).heap.size = W.heap.size := by simp
        refine ⟨HF1.out.trans (below_from hB6.out), keepS_below HS1.out hB6.out (by rw [hVs]; exact hKW), ⟨hsn.out, ?_, ?_⟩, (hB.setCell (p := ⟨W4.heap.size, 0, none⟩) (Nat.le_refl _) _).trans (hB6.out.mono (by rw [hVs]; omega))⟩
        · have := EJ.out
          rw [show first + (fs.length : Int) - ((pre ++ [(first + (j : Int), xs)]).length : Int) = first + (j : Int) by simp; omega]
          exact ((bcell hB6.out).1 _ _ (by rw [hVs]; exact hW4l)).trans (World.cell?_setCell_same' _ _ _ (by rw [hk]; rfl))
        · exact ((bcell hB6.out).2 _ _ (by rw [hVs]; exact hW4l)).trans (by rw [World.frozen?_setCell]; exact hf)
      · have hne := Lib.hid (upto_not (f := S) (pre := pre) (x := (first + (j : Int), xs)) (by rw [HSP.out]; exact (fun e => c2 (Prod.mk.inj e).2)))
        gi_wp2_with (first | (refine And.intro (show Fence.wide.fn _ from trivial) ?_) | (gi_at_call 39; refine (CallsIn.inRound l' ((callsIn_wide (n := _)).2 pSum.out)).mono ?_; rintro e W6 ⟨rfl, hb6⟩; have hres6 := HRS.out.below hb6 HRS.out.lt; have r1 := hres6.cell 0; have r2 := hres6.frozen 0; have hB6 := Lib.hid hb6; clear hb6 hres6) | fail)
        all_goals first
          | (rename_i hx; exfalso; have hx2 := hx.2; simp at hx2; exact c2 hx2)
          | (have hVs : (W.setCell ⟨W4.heap.size, 0, none⟩ (.int .i64 (first + (j : Int)))).heap.size = W.heap.size := by simp
             exact ⟨(HF1.out.trans (below_from hB6.out)).trans ((KeepsOthers.setCell _ _ _).from _), keepS_set (keepS_below HS1.out hB6.out (by rw [hVs]; exact hKW)) HK.out HLW.out _, hne.out⟩)
          | fail
    · have hne := Lib.hid (upto_not (f := S) (pre := pre) (x := (xn, xs)) (by rw [HSP.out]; exact (fun e => c1 (Prod.mk.inj e).1)))
      gi_wp2_with (first | (refine And.intro (show Fence.wide.fn _ from trivial) ?_) | fail)
      all_goals first
        | (rename_i hx; exfalso; simp at hx; exact c1 hx)
        | exact ⟨HF1.out.trans ((KeepsOthers.setCell _ _ _).from _), keepS_set HS1.out HK.out HLW.out _, hne.out⟩
        | fail
  case done =>
    rintro D ys W hD rfl ⟨⟨_, hk, hf⟩, hB⟩ hdef
    rw [upto_length] at hk
    rw [show first + (fs.length : Int) - (fs.length : Int) = first by omega] at hk
    have hbox := hBox5.below hB (by omega)
    have q1 := hbox.cell 1
    have hres := hRes5.below hB (by omega)
    have hr1 := hres.cell 0
    have hr2 := hres.frozen 0
    have hBw := hB5.trans (hB.mono (by omega))
    clear hbox hres hBox5 hRes5 hA5 hs5 hown1
    go_wp2
    have hD5 := lt_of_heap hdef
    have hdef' : (W.setCell ⟨w.heap.size + 1, 0, none⟩ (.bool true)).heap[D]? = some (Obj.deferred (some [])) := (KeepsOthers.setCell W ⟨w.heap.size + 1, 0, none⟩ (.bool true)).same D _ hdef rfl
    have hc0 := World.cell?_setCell_same' W ⟨w.heap.size + 1, 0, none⟩ (.bool true) (by rw [hr1]; rfl)
    have hB6 : Below w.heap.size w (W.setCell ⟨w.heap.size + 1, 0, none⟩ (.bool true)) := hBw.setCell (p := ⟨w.heap.size + 1, 0, none⟩) (by simp) _
    obtain ⟨W6, hW6⟩ : ∃ W6, W6 = W.setCell ⟨w.heap.size + 1, 0, none⟩ (.bool true) := ⟨_, rfl⟩
    rw [← hW6] at hdef' hc0 hB6 ⊢
    refine ⟨by simp, .inl ⟨_, _, rfl, run_takeDeferred hdef', ?_⟩⟩
    have hc1 := cell_kept hc0 (grownBy_putObj' _ D (.deferred none)) (fun r e => by cases e; exact ⟨_, hdef', rfl⟩)
    refine ⟨.bool true, ?_, rfl, hB6.trans (belowK_b (w := w) (Nat.le_refl _) _ D _ _ (by omega) hdef' rfl rfl)⟩
    simp [results, Try.f87, go_sem, hc1]
end Go.Proofs.Ytblnfkhaicjeaaa.Sav
