/-
  backstaylaw37.is: a table that counted just these.
-/
import Derived.Test.YtmceaffoffemlaaMetG
namespace Go.Proofs.Ytmceaffoffemlaa.Met
open Go.RowKit Go.Shelf
set_option linter.all false
attribute [local go_sem] Oper.semAt_some

theorem calls_of_wp_marks {P : Program} {f : FuncId} {fn : Func} {c : Code} {args : Array Value} {w : World} {R : Ending → World → Prop} (n : Nat)
    (hf : P.funcs[f]? = some fn) (hb : fn.body = some c)
    (h : c.wp P (bodyPostM Fence.wide n P fn R) { tmps := args ++ Array.replicate (fn.ntmps - args.size) undef, defers := [] } w) : Calls P f args w R :=
  (callsIn_wide (n := n)).1 (callsIn_of_wp_marks hf hb trivial (wpIn_wide.2 h) rfl)
theorem upto_snoc {α : Type} {f : Nat → α} {pre : List α} (hp : pre = upto f pre.length) : pre ++ [f pre.length] = upto f (pre ++ [f pre.length]).length := by
  rw [List.length_append, List.length_singleton, upto_succ, ← hp]
theorem upto_not {α : Type} {f : Nat → α} {pre : List α} {x : α} (hx : x ≠ f pre.length) : pre ++ [x] ≠ upto f (pre ++ [x]).length := by
  rw [List.length_append, List.length_singleton, upto_succ]
  intro e
  have := (List.append_inj' e rfl).2
  simp at this
  exact hx this
/-- The boxes of the four. -/
structure Bx4 (W : World) (b0 b1 b2 b3 t : Nat) (ba la : Option Addr) (bn bc ln lc : Nat) : Prop where
  x0 : Blk W b0 36 #[.pointer (some ⟨t, 0, none⟩)]
  x1 : Blk W b1 23 #[.slice ba bn bc]
  x2 : Blk W b2 23 #[.slice la ln lc]
  x3 : Blk W b3 4 #[.bool false]
theorem Bx4.below {W W' : World} {b0 b1 b2 b3 t : Nat} {ba la : Option Addr} {bn bc ln lc B : Nat} (h : Bx4 W b0 b1 b2 b3 t ba la bn bc ln lc) (hb : Below B W W') (h0 : b0 < B) (h1 : b1 < B) (h2 : b2 < B) (h3 : b3 < B) : Bx4 W' b0 b1 b2 b3 t ba la bn bc ln lc :=
  ⟨h.x0.below hb h0, h.x1.below hb h1, h.x2.below hb h2, h.x3.below hb h3⟩
theorem boxes4 (w : World) (t : Nat) (ba la : Option Addr) (bn bc ln lc : Nat) : ∃ W1, W1 = ((((w.alloc (.cells #[.pointer (some ⟨t, 0, none⟩)] 36)).alloc (.cells #[.slice ba bn bc] 23)).alloc (.cells #[.slice la ln lc] 23)).alloc (.cells #[.bool false] 4)) ∧
    Bx4 W1 w.heap.size (w.heap.size + 1) (w.heap.size + 1 + 1) (w.heap.size + 1 + 1 + 1) t ba la bn bc ln lc ∧ W1.heap.size = w.heap.size + 4 ∧ Below w.heap.size w W1 := by
  refine ⟨_, rfl, ⟨?_, ?_, ?_, ?_⟩, by simp, ?_⟩
  · exact (((Blk.new w _ _).alloc _).alloc _).alloc _
  · have := ((Blk.new (w.alloc (.cells #[.pointer (some ⟨t, 0, none⟩)] 36)) 23 #[.slice ba bn bc]).alloc (.cells #[.slice la ln lc] 23)).alloc (.cells #[.bool false] 4)
    simpa using this
  · have := (Blk.new ((w.alloc (.cells #[.pointer (some ⟨t, 0, none⟩)] 36)).alloc (.cells #[.slice ba bn bc] 23)) 23 #[.slice la ln lc]).alloc (.cells #[.bool false] 4)
    simpa using this
  · have := Blk.new (((w.alloc (.cells #[.pointer (some ⟨t, 0, none⟩)] 36)).alloc (.cells #[.slice ba bn bc] 23)).alloc (.cells #[.slice la ln lc] 23)) 4 #[.bool false]
    simpa using this
  · exact ((((Below.refl _ w).alloc (Nat.le_refl _) _).alloc (by simp) _).alloc (by simp; omega) _).alloc (by simp; omega) _

set_option maxRecDepth 100000 in
set_option maxHeartbeats 8000000 in
theorem is_any (w : World) (t : Nat) (bv cv : Value) (bs ls : List Int) (s : Int) (ba la : Option Addr) (bc lc : Nat) (h : TS w t bv cv bs ls s) (hb : Row .i64 w ba bs.length bs) (hl : Row .i64 w la ls.length ls) (h64 : bs.length ≤ 64) (hll : ls.length ≤ 1000) (hs : -9223372036854775808 ≤ s ∧ s ≤ 9223372036854775807) :
    Calls Try.prog 26 #[.pointer (some ⟨t, 0, none⟩), .slice ba bs.length bc, .slice la ls.length lc, .int .i64 s] w fun e w' => e = .returned (.bool true) ∧ Below w.heap.size w w' := by
  have HRB := Lib.hid hb
  have HRL := Lib.hid hl
  refine calls_of_wp_marks 9 Try.func26 rfl ?_
  simp only [Try.ntmps26, List.size_toArray, List.length_cons, List.length_nil, Nat.reduceAdd, Nat.reduceSub, Array.replicate_succ, Array.replicate_zero, List.push_toArray, List.append_toArray, List.nil_append, List.cons_append]
  obtain ⟨W1, hW1, hX, hz1, hB1⟩ := boxes4 w t ba la bs.length bc ls.length lc
  go_wp2_with fail
  rw [← hW1]
  clear hW1
  obtain ⟨b1, e1⟩ : ∃ b1, b1 = w.heap.size + 1 := ⟨_, rfl⟩
  rw [← e1] at hX ⊢
  obtain ⟨b2, e2⟩ : ∃ b2, b2 = b1 + 1 := ⟨_, rfl⟩
  rw [← e2] at hX ⊢
  obtain ⟨b3, e3⟩ : ∃ b3, b3 = b2 + 1 := ⟨_, rfl⟩
  rw [← e3] at hX ⊢
  have EB := Lib.hid (show b1 = w.heap.size + 1 ∧ b2 = w.heap.size + 2 ∧ b3 = w.heap.size + 3 ∧ W1.heap.size = w.heap.size + 4 from ⟨e1, by omega, by omega, hz1⟩)
  clear e1 e2 e3 hz1
  have hT1 := h.below (hB1)
  have hb1 := hb.below hB1
  have hl1 := hl.below hB1
  clear h hb hl
  refine (ends_any W1 la lc ls hl1 (by omega)).mono ?_
  rintro e W2 ⟨rfl, hB2⟩
  go_upto_region 2 with fail
  have hXlt := EB.out
  have hX3 := (hX.below hB2 (by omega) (by omega) (by omega) (by omega)).below ((Below.refl _ W2).alloc (Nat.le_refl _) (.cells #[.int .i64 (hi ls)] 3)) (by have := hB2.size; omega) (by have := hB2.size; omega) (by have := hB2.size; omega) (by have := hB2.size; omega)
  have hT3 := (hT1.below hB2).below ((Below.refl _ W2).alloc (Nat.le_refl _) (.cells #[.int .i64 (hi ls)] 3))
  have hb3 := (hb1.below hB2).below ((Below.refl _ W2).alloc (Nat.le_refl _) (.cells #[.int .i64 (hi ls)] 3))
  have hl3 := (hl1.below hB2).below ((Below.refl _ W2).alloc (Nat.le_refl _) (.cells #[.int .i64 (hi ls)] 3))
  have hM3 : Blk (W2.alloc (.cells #[.int .i64 (hi ls)] 3)) W2.heap.size 3 #[.int .i64 (hi ls)] := Blk.new _ _ _
  have hB3 : Below w.heap.size w (W2.alloc (.cells #[.int .i64 (hi ls)] 3)) := (hB1.trans (hB2.mono hB1.size)).alloc (by have := hB1.size; have := hB2.size; omega) _
  have EM := Lib.hid (show w.heap.size + 4 ≤ W2.heap.size ∧ (W2.alloc (.cells #[.int .i64 (hi ls)] 3)).heap.size = W2.heap.size + 1 from ⟨by have := hB2.size; omega, by simp⟩)
  clear hX hT1 hb1 hl1 hB1 hB2 hXlt
  generalize W2.alloc (.cells #[.int .i64 (hi ls)] 3) = W3 at *
  generalize W2.heap.size = bm at *
  have q0 : W3.cell? ⟨w.heap.size, 0, none⟩ = some (.pointer (some ⟨t, 0, none⟩)) := hX3.x0.cell 0
  have q1 : W3.cell? ⟨b1, 0, none⟩ = some (.slice ba bs.length bc) := hX3.x1.cell 0
  have q2 : W3.cell? ⟨b2, 0, none⟩ = some (.slice la ls.length lc) := hX3.x2.cell 0
  have qm : W3.cell? ⟨bm, 0, none⟩ = some (.int .i64 (hi ls)) := hM3.cell 0
  have dn : ∀ n, Below W3.heap.size W3 (W3.drewN n) := fun n => below_drewN (Below.refl _ _) n
  have pMany := Lib.hid (fun n => (many_ts (W3.drewN n) t bv cv bs ls s (hT3.below (dn n))).mono (R' := fun e w'' => e = .returned (.int .i64 ls.length) ∧ ∃ m, w'' = W3.drewN m) (fun _ _ h => ⟨h.1, _, h.2.symm⟩))
  have pSum := Lib.hid (fun n => (sum_ts (W3.drewN n) t bv cv bs ls s (hT3.below (dn n))).mono (R' := fun e w'' => e = .returned (.int .i64 s) ∧ ∃ m, w'' = W3.drewN m) (fun _ _ h => ⟨h.1, _, h.2.symm⟩))
  have pLeast := Lib.hid (fun n => (least_ts (W3.drewN n) t bv cv bs ls s (hT3.below (dn n))).mono (R' := fun e w'' => e = .returned (.int .i64 (lo ls)) ∧ ∃ m, w'' = W3.drewN m) (fun _ _ h => ⟨h.1, _, h.2.symm⟩))
  have pMost := Lib.hid (fun n => (most_ts (W3.drewN n) t bv cv bs ls s (hT3.below (dn n))).mono (R' := fun e w'' => e = .returned (.int .i64 (hi ls)) ∧ ∃ m, w'' = W3.drewN m) (fun _ _ h => ⟨h.1, _, h.2.symm⟩))
  have pMean := Lib.hid (fun n => (mean_ts (W3.drewN n) t bv cv bs ls s (hT3.below (dn n)) hs hll).mono (R' := fun e w'' => e = .returned (.int .i64 (Num.floorV s ls.length)) ∧ ∃ m, w'' = W3.drewN m) (fun _ _ h => ⟨h.1, by obtain ⟨m, hm⟩ := h.2; exact ⟨n + m, by rw [hm, World.drewN_drewN]⟩⟩))
  have pFl := Lib.hid (fun n => (Num.rfloor_any (W3.drewN n) s ls.length hs.1 hs.2 (by omega) (by omega)).mono (R' := fun e w'' => e = .returned (.int .i64 (Num.floorV s ls.length)) ∧ ∃ m, w'' = W3.drewN m) (fun _ _ h => ⟨h.1, _, h.2.symm⟩))
  clear dn
  generalize Num.floorV s ls.length = FV at *
  go_quiet (first | exact pMany.out _ | exact pSum.out _ | exact pLeast.out _ | exact pMost.out _ | exact pMean.out _ | exact pFl.out _)
  clear pMany pSum pLeast pMost pMean pFl q0 q1 q2 qm
  have hW4 := below_drewN (Below.refl W3.heap.size W3) nq
  have hX4 := hX3.below hW4 (by have := EB.out; have := EM.out; omega) (by have := EB.out; have := EM.out; omega) (by have := EB.out; have := EM.out; omega) (by have := EB.out; have := EM.out; omega)
  have hT4 := hT3.below hW4
  have hb4 := hb3.below hW4
  have hl4 := hl3.below hW4
  have hM4 := hM3.below hW4 (by have := EM.out; omega)
  have hB4 : Below w.heap.size w (W3.drewN nq) := hB3.trans (hW4.mono hB3.size)
  have hz4 : (W3.drewN nq).heap.size = bm + 1 := by have := EM.out; exact this.2
  clear hX3 hT3 hb3 hl3 hM3 hB3 hW4
  generalize W3.drewN nq = W4 at *
  have q0 : W4.cell? ⟨w.heap.size, 0, none⟩ = some (.pointer (some ⟨t, 0, none⟩)) := hX4.x0.cell 0
  have pA := Lib.hid (all_any W4 t)
  have hnf : ∀ (f : FuncId) (cs : Array Value) (W : World), Sem.run Try.prog (binOp .eql 103 (.func (.func f) #[] cs) .nilFunc) W = .ok (.bool false) W := by
    intro f cs W
    have h : ∀ d : Nat, Sem.run Try.prog (Op.equalIn (d + 1) 103 (.func (.func f) #[] cs) .nilFunc) W = .ok false W := fun d => by
      simp [Op.equalIn, run_underlying Try.underlying103, go_sem]
    have h' := h (Op.maxDepth - 1)
    simp only [binOp, Op.equal]
    rw [Sem.run_bind]
    erw [h']
    rfl
  go_wp2_with (refine pA.out.mono ?_; rintro e w' ⟨rfl, rfl⟩)
  refine (wpIn_wide (n := 9)).1 ?_
  have hk5 : Blk ((W4.alloc (.cells #[.pointer (some ⟨t, 0, none⟩)] 36)).alloc (.cells #[.int .i64 0] 3)) (bm + 1 + 1) 3 #[.int .i64 0] := by
    have := Blk.new (W4.alloc (.cells #[.pointer (some ⟨t, 0, none⟩)] 36)) 3 #[.int .i64 0]
    simpa only [World.size_alloc, hz4] using this
  have hx5 : Blk ((W4.alloc (.cells #[.pointer (some ⟨t, 0, none⟩)] 36)).alloc (.cells #[.int .i64 0] 3)) (bm + 1) 36 #[.pointer (some ⟨t, 0, none⟩)] := by
    have := (Blk.new W4 36 #[.pointer (some ⟨t, 0, none⟩)]).alloc (.cells #[.int .i64 0] 3)
    rw [hz4] at this; exact this
  have hW5 : Below W4.heap.size W4 ((W4.alloc (.cells #[.pointer (some ⟨t, 0, none⟩)] 36)).alloc (.cells #[.int .i64 0] 3)) := ((Below.refl _ W4).alloc (Nat.le_refl _) _).alloc (by simp) _
  have hz5 : ((W4.alloc (.cells #[.pointer (some ⟨t, 0, none⟩)] 36)).alloc (.cells #[.int .i64 0] 3)).heap.size = bm + 3 := by simp [hz4]
  generalize (W4.alloc (.cells #[.pointer (some ⟨t, 0, none⟩)] 36)).alloc (.cells #[.int .i64 0] 3) = W5 at *
  have hX5 := hX4.below hW5 (by have := EB.out; have := EM.out; omega) (by have := EB.out; have := EM.out; omega) (by have := EB.out; have := EM.out; omega) (by have := EB.out; have := EM.out; omega)
  have hT5 := hT4.below hW5
  have hb5 := hb4.below hW5
  have hl5 := hl4.below hW5
  have hM5 := hM4.below hW5 (by omega)
  have hB5 : Below w.heap.size w W5 := hB4.trans (hW5.mono hB4.size)
  have hfp : ∀ k, tfp t bv cv k → k < bm + 1 := fun k hk => by have := hT4.lt k hk; omega
  clear hX4 hT4 hb4 hl4 hM4 hB4 hW5 q0 pA
  have hown1 : OwnFrom W5.heap.size (fun (pre : List (Int × Int)) W => (pre = upto (allF bs ls) pre.length ∧ W.cell? ⟨bm + 1 + 1, 0, none⟩ = some (.int .i64 (pre.length : Int)) ∧ W.frozen? ⟨bm + 1 + 1, 0, none⟩ = false) ∧ Below (bm + 2) W5 W) :=
    OwnFrom.and (Own.from (fun s A B row hs hg hr => ⟨hs.1, cell_kept hs.2.1 hg hr, (frozen_kept hs.2.1 hg hr).trans hs.2.2⟩) _) (ownFrom_below (by omega) (by omega))
  refine' wpIn_rangeFunc_ownF (F := Fence.wide) (n := 9) rfl (by omega) (gf := 80) (lb := #[.pointer (some ⟨bm + 1, 0, none⟩)]) rfl trivial (enters_of Try.func80 (by kernel_rfl) rfl)
    (all_stops Fence.wide 8 trivial rfl (by omega) (bm + 1) t (fun k => k < bm + 2) bv cv bs ls s W5 (fun k hk => by omega) (hx5.cell 0) hT5 (fun k hk => by have := hfp k hk; omega) (by omega) h64)
    keepB_t (keepB_b (m := W5.heap.size) (fun k hk => by omega)) (Below.refl _ _) (fun _ => rfl)
    (fun pre W => (pre = upto (allF bs ls) pre.length ∧ W.cell? ⟨bm + 1 + 1, 0, none⟩ = some (.int .i64 (pre.length : Int)) ∧ W.frozen? ⟨bm + 1 + 1, 0, none⟩ = false) ∧ Below (bm + 2) W5 W)
    (fun c pre _ => pre ≠ upto (allF bs ls) pre.length) hown1 (fun _ _ _ _ _ hs _ _ => hs) ⟨⟨rfl, hk5.cell 0, hk5.frozen 0⟩, Below.refl _ _⟩ _ ?assign ?body ?done ?stop
  case assign =>
    intro l' x W K hK
    dsimp only [encs]
    gi_wp2
    exact hK
  case stop =>
    rintro D c pre W hD ⟨k, hk, rfl⟩ hne _
    exact absurd (by rw [upto_length]) hne
  case body =>
    rintro l' pre ⟨xn, xv⟩ W ⟨⟨hp, hk, hf⟩, hB⟩ hlt
    have hX := hX5.below hB (by have := EB.out; have := EM.out; omega) (by have := EB.out; have := EM.out; omega) (by have := EB.out; have := EM.out; omega) (by have := EB.out; have := EM.out; omega)
    have q0 : W.cell? ⟨w.heap.size, 0, none⟩ = some (.pointer (some ⟨t, 0, none⟩)) := hX.x0.cell 0
    have q1 : W.cell? ⟨b1, 0, none⟩ = some (.slice ba bs.length bc) := hX.x1.cell 0
    have q2 : W.cell? ⟨b2, 0, none⟩ = some (.slice la ls.length lc) := hX.x2.cell 0
    have r1 : W.cell? ⟨b3, 0, none⟩ = some (.bool false) := hX.x3.cell 0
    have r2 := hX.x3.frozen 0
    have qm : W.cell? ⟨bm, 0, none⟩ = some (.int .i64 (hi ls)) := (hM5.below hB (by omega)).cell 0
    have i0 : ¬ (bs.length : Int) < (pre.length : Int) := by omega
    obtain ⟨k, hkk⟩ : ∃ k, k = pre.length := ⟨_, rfl⟩
    have US := Lib.hid (fun (x : Int × Int) (h : x = allF bs ls k) => show pre ++ [x] = upto (allF bs ls) (pre ++ [x]).length by rw [h, hkk]; exact upto_snoc hp)
    have UN := Lib.hid (fun (x : Int × Int) (h : x ≠ allF bs ls k) => upto_not (f := allF bs ls) (pre := pre) (x := x) (by rw [← hkk]; exact h))
    have PL := Lib.hid hkk
    rw [← hkk] at hk hlt i0
    have hwW : Below w.heap.size w W := hB5.trans (hB.mono (by have := EM.out; omega))
    have hT := hT5.keep (K := fun k => k < bm + 2) (fun k hk => hB.block k hk) (fun k hk => by have := hfp k hk; omega)
    have pc1 := ((callsIn_wide (n := 6)).2 (ref_count W ba la bc lc bs ls k (HRB.out.below hwW) (HRL.out.below hwW) (by omega) (by omega) (by omega))).inRound l'
    have pc2 := ((callsIn_wide (n := 6)).2 (count_ts W t bv cv bs ls s k hT)).inRound l'
    have ec : countI bs ls (k : Int) = (cnt bs ls k : Int) := by unfold countI; rw [if_neg (by omega)]; rfl
    rw [ec] at pc2
    simp only [Int.toNat_natCast] at pc1
    have PC1 := Lib.hid pc1
    have PC2 := Lib.hid pc2
    have HRW := Lib.hid (HRB.out.below hwW)
    have hset : ∀ {v}, Below (bm + 2) W (W.setCell ⟨bm + 1 + 1, 0, none⟩ v) := fun {v} => (Below.refl _ W).setCell (p := ⟨bm + 1 + 1, 0, none⟩) (by simp) _
    clear pc1 pc2 ec hp hkk hT hX hX5 hT5 hb5 hl5 hM5 hown1 hk5 hx5
    by_cases c2 : xv = (cnt bs ls k : Int)
    · subst c2
      by_cases hkb : k < bs.length
      · have hkb' : (k : Int) < (bs.length : Int) := by omega
        obtain ⟨gb, ob, rfl, hgb, hcb⟩ := HRW.out.2 (by omega)
        have ck := hcb k hkb
        have i1 : (0 : Int) ≤ (k : Int) := by omega
        have EX := Lib.hid (show allF bs ls k = (nth bs k, (cnt bs ls k : Int)) by unfold allF; rw [if_pos hkb])
        clear hcb
        by_cases c1 : xn = nth bs k
        · subst c1
          generalize hcv : cnt bs ls k = cv' at *
          generalize hnv : nth bs k = nv at *
          gi_wp2_with (first | (refine ⟨trivial, PC1.out.mono ?_⟩; rintro e w' ⟨rfl, hw⟩; subst hw) | (refine ⟨trivial, PC2.out.mono ?_⟩; rintro e w' ⟨rfl, hw⟩; subst hw))
          refine ⟨KeepsOthers.setCell _ _ _, fun k hk => hset.block k hk, ⟨US.out _ EX.out.symm, ?_, by rw [World.frozen?_setCell]; exact hf⟩, hB.setCell (p := ⟨bm + 1 + 1, 0, none⟩) (by simp) _⟩
          simp only [List.length_append, List.length_singleton, Int.natCast_add, Int.natCast_one, ← PL.out]
          exact World.cell?_setCell_same' _ _ _ (by rw [hk]; rfl)
        · generalize hcv : cnt bs ls k = cv' at *
          generalize hnv : nth bs k = nv at *
          have hne := Lib.hid (UN.out (xn, (cv' : Int)) (by rw [EX.out]; exact fun e => c1 (Prod.mk.inj e).1))
          gi_wp2_with (first | (refine ⟨trivial, PC1.out.mono ?_⟩; rintro e w' ⟨rfl, hw⟩; subst hw) | (refine ⟨trivial, PC2.out.mono ?_⟩; rintro e w' ⟨rfl, hw⟩; subst hw))
          exact ⟨KeepsOthers.setCell _ _ _, hne.out⟩
      · have hkb' : ¬ (k : Int) < (bs.length : Int) := by omega
        have EX := Lib.hid (show allF bs ls k = (hi ls, (cnt bs ls k : Int)) by unfold allF; rw [if_neg hkb])
        by_cases c1 : xn = hi ls
        · subst c1
          generalize hcv : cnt bs ls k = cv' at *
          gi_wp2_with (first | (refine ⟨trivial, PC1.out.mono ?_⟩; rintro e w' ⟨rfl, hw⟩; subst hw) | (refine ⟨trivial, PC2.out.mono ?_⟩; rintro e w' ⟨rfl, hw⟩; subst hw))
          refine ⟨KeepsOthers.setCell _ _ _, fun k hk => hset.block k hk, ⟨US.out _ EX.out.symm, ?_, by rw [World.frozen?_setCell]; exact hf⟩, hB.setCell (p := ⟨bm + 1 + 1, 0, none⟩) (by simp) _⟩
          simp only [List.length_append, List.length_singleton, Int.natCast_add, Int.natCast_one, ← PL.out]
          exact World.cell?_setCell_same' _ _ _ (by rw [hk]; rfl)
        · generalize hcv : cnt bs ls k = cv' at *
          have hne := Lib.hid (UN.out (xn, (cv' : Int)) (by rw [EX.out]; exact fun e => c1 (Prod.mk.inj e).1))
          gi_wp2_with (first | (refine ⟨trivial, PC1.out.mono ?_⟩; rintro e w' ⟨rfl, hw⟩; subst hw) | (refine ⟨trivial, PC2.out.mono ?_⟩; rintro e w' ⟨rfl, hw⟩; subst hw))
          exact ⟨KeepsOthers.setCell _ _ _, hne.out⟩
    · have hne := Lib.hid (UN.out (xn, xv) (by intro e; exact c2 (Prod.mk.inj e).2))
      generalize hcv : cnt bs ls k = cv' at *
      have hq1 : (xv == (cv' : Int)) = false := by simpa using c2
      have hq2 : (xv != (cv' : Int)) = true := by simp [bne, hq1]
      gi_wp2_with (first | (refine ⟨trivial, PC1.out.mono ?_⟩; rintro e w' ⟨rfl, hw⟩; subst hw) | (refine ⟨trivial, PC2.out.mono ?_⟩; rintro e w' ⟨rfl, hw⟩; subst hw) | (refine ⟨trivial, ?_⟩))
      exact ⟨KeepsOthers.setCell _ _ _, hne.out⟩
  case done =>
    rintro D ys W hD rfl ⟨⟨_, hk, hf⟩, hB⟩ hK
    rw [upto_length] at hk
    have hk' : W.cell? ⟨bm + 1 + 1, 0, none⟩ = some (.int .i64 ((bs.length : Int) + 1)) := by simpa using hk
    have hX := hX5.below hB (by have := EB.out; have := EM.out; omega) (by have := EB.out; have := EM.out; omega) (by have := EB.out; have := EM.out; omega) (by have := EB.out; have := EM.out; omega)
    have q0 : W.cell? ⟨w.heap.size, 0, none⟩ = some (.pointer (some ⟨t, 0, none⟩)) := hX.x0.cell 0
    have q1 : W.cell? ⟨b1, 0, none⟩ = some (.slice ba bs.length bc) := hX.x1.cell 0
    have r1 : W.cell? ⟨b3, 0, none⟩ = some (.bool false) := hX.x3.cell 0
    have r2 := hX.x3.frozen 0
    have hwW : Below w.heap.size w W := hB5.trans (hB.mono (by have := EM.out; omega))
    have hT := hT5.keep (K := fun k => k < bm + 2) (fun k hk => hB.block k hk) (fun k hk => by have := hfp k hk; omega)
    have pa := count_ts W t bv cv bs ls s (-1) hT
    have pb := count_ts W t bv cv bs ls s ((bs.length : Int) + 1) hT
    rw [show countI bs ls (-1) = 0 by simp [countI]] at pa
    rw [show countI bs ls ((bs.length : Int) + 1) = 0 by simp [countI]] at pb
    have PA := Lib.hid pa
    have PB := Lib.hid pb
    have hDlt := lt_of_heap hK
    clear hk pa pb hX hX5 hT hT5 hb5 hl5 hM5 hown1 hk5 hx5
    go_wp2_with fail
    refine PA.out.mono ?_
    rintro e w' ⟨rfl, hw⟩
    subst hw
    go_wp2_with fail
    refine PB.out.mono ?_
    rintro e w' ⟨rfl, hw⟩
    subst hw
    go_wp2_with fail
    have hzw : w.heap.size + 4 ≤ bm := EM.out.1
    have hb3 : w.heap.size ≤ b3 := by have := EB.out; omega
    have hK' : (W.setCell ⟨b3, 0, none⟩ (.bool true)).heap[D]? = some (Obj.deferred (some [])) := (KeepsOthers.setCell W ⟨b3, 0, none⟩ (.bool true)).same D _ hK rfl
    have hc0 := World.cell?_setCell_same' W ⟨b3, 0, none⟩ (.bool true) (by rw [r1]; rfl)
    have hB6 : Below w.heap.size w (W.setCell ⟨b3, 0, none⟩ (.bool true)) := hwW.setCell (p := ⟨b3, 0, none⟩) hb3 _
    obtain ⟨W6, hW6⟩ : ∃ W6, W6 = W.setCell ⟨b3, 0, none⟩ (.bool true) := ⟨_, rfl⟩
    rw [← hW6] at hK' hc0 hB6 ⊢
    refine ⟨by simp, .inl ⟨_, _, rfl, run_takeDeferred hK', ?_⟩⟩
    have hc1 := cell_kept hc0 (grownBy_putObj' _ D (.deferred none)) (fun r e => by cases e; exact ⟨_, hK', rfl⟩)
    refine ⟨.bool true, ?_, rfl, hB6.trans (belowK_b (w := w) (Nat.le_refl _) _ D _ _ (by omega) hK' rfl rfl)⟩
    simp [results, Try.f26, go_sem, hc1]
end Go.Proofs.Ytmceaffoffemlaa.Met
