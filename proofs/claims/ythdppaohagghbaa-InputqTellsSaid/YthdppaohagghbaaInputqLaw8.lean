/-
  The walk of (*inputq.Queue).List: a range over a ring's entries.
-/
import Derived.Test.YthdppaohagghbaaInputqLaw7
namespace Go.Proofs.Ythdppaohagghbaa
open Go.RowKit Go.Sort Go.Shelf
set_option linter.all false
attribute [local go_sem] Oper.semAt_some

theorem calls_of_wp_marks {P : Program} {f : FuncId} {fn : Func} {c : Code} {args : Array Value} {w : World} {R : Ending → World → Prop} (n : Nat)
    (hf : P.funcs[f]? = some fn) (hb : fn.body = some c)
    (h : c.wp P (bodyPostM Fence.wide n P fn R) { tmps := args ++ Array.replicate (fn.ntmps - args.size) undef, defers := [] } w) : Calls P f args w R :=
  (callsIn_wide (n := n)).1 (callsIn_of_wp_marks hf hb trivial (wpIn_wide.2 h) rfl)

/-- append in a fence, onto a slice at a block's head. -/
theorem wpListIn_append_on {F : Fence} {n : Nat} {P : Program} (w : World) {ops : Array Oper} {rest : List Oper} {o : Oper} {a : Act} {Q : Exit → Act → World → Prop}
    (hgd : o.guard = none) (s x : Operand) (t : TypeId) (hop : o.op = Op.call { callee := Callee.builtin Builtin.append, args := #[s, x], argTypes := #[t, t] })
    (e : TypeId) (i : TypeInfo) (z : Value) (size bytes : Nat) (ht : P.underlying t = some (.slice e)) (hi : P.info? e = some i) (hz : i.zero = some z)
    (hsize : i.size = size) (hby : i.bytes = bytes) (hzs : z.cells.size = size) (hsz : 0 < size)
    (v : Value) (k : Nat) (xs : List Value) (hs : a.eval s = v) (hown : On w e size v k xs)
    (A : Option Addr) (m c : Nat) (news : List Value) (hx : a.eval x = .slice A m c) (hl : news.length = m * size) (hnews : Src w A m news) (h1 : ∀ u ∈ news, u.oneCell' = true)
    (h63 : k + m ≤ maxLen) (hbytes : (k + m) * bytes ≤ 140737488355328)
    (h : ∀ v' w', On w' e size v' (k + m) (xs ++ news) → w.grownBy w' v.ownBlock → (v'.ownBlock = v.ownBlock ∨ v'.ownBlock = some w.heap.size) → wpListIn F n P ops Q rest (a.put o.dst v') w') :
    wpListIn F n P ops Q (o :: rest) a w := by
  refine wpListIn_plain hgd fun K hK' => ?_
  obtain ⟨v', w', hrun, r1, r2, r3⟩ := run_append_on (P := P) w t o.type e i z size bytes ht hi hz hsize hby hzs hsz v k xs hown A m c news hl hnews h1 h63 hbytes
  unfold Oper.wpIn
  refine ⟨?_, ?_⟩
  · simp [Oper.about, hop, resolve, Target.leads, Sem.run_pure]
  · rw [Oper.semAt_plain F _ _ (by rw [hop]; intro c hc'; cases hc')]
    simp [execOp, hop, resolve, invoke, builtin, hs, hx, hrun, Result.andThen]
    exact hK' _ _ (h v' w' r1 r2 r3)

theorem row_ne {W : World} {row : Option Nat} {B g : Nat} {t : TypeId} {cs : Array Value} (hr : ∀ r, row = some r → B ≤ r ∧ ∃ o : Obj, W.heap[r]? = some o ∧ o.isCells = false) (h : Blk W g t cs) : row ≠ some g := by
  intro e
  obtain ⟨_, o, ho, hc⟩ := hr g e
  unfold Blk at h
  rw [h] at ho
  cases ho
  cases hc
theorem row_ne_on {W : World} {row : Option Nat} {B : Nat} {e : TypeId} {size : Nat} {v : Value} {n : Nat} {xs : List Value} (hr : ∀ r, row = some r → B ≤ r ∧ ∃ o : Obj, W.heap[r]? = some o ∧ o.isCells = false) (h : On W e size v n xs) : v.ownBlock = none ∨ v.ownBlock ≠ row := by
  rcases h.2 with ⟨rfl, _⟩ | ⟨g, cap, cur, rfl, hg, _⟩
  · exact .inl rfl
  · exact .inr (fun e => row_ne hr (cs := cur) hg e.symm)

theorem on_cells {W : World} {e : TypeId} {size : Nat} {v : Value} {n : Nat} {xs : List Value} (h : On W e size v n xs) {j : Nat} {o : Obj} (hj : v.ownBlock = some j) (ho : W.heap[j]? = some o) : o.isCells = true := by
  rcases h.2 with ⟨rfl, _⟩ | ⟨g, cap, cur, rfl, hg, _⟩
  · simp [Value.ownBlock] at hj
  · simp [Value.ownBlock] at hj
    subst hj
    rw [hg] at ho
    cases ho
    rfl

namespace InputqP
open Inputq (QAt fpQ TurnedQ S Ok)
open Ref21 (RAt RTo rval qv L)
open RingInput (allF upto KeepB)

/-- Of what has come those that lie within two bounds. -/
def pkp (lo hi : Int) (pre : List (Int × Int)) : List Int := (pre.filter (fun x => decide (lo ≤ x.1) && decide (x.1 < hi))).map Prod.snd
theorem pkp_yes {lo hi : Int} {pre : List (Int × Int)} {n v : Int} (h1 : lo ≤ n) (h2 : n < hi) : pkp lo hi (pre ++ [(n, v)]) = pkp lo hi pre ++ [v] := by simp [pkp, List.filter_append, List.filter_cons, h1, h2]
theorem pkp_no {lo hi : Int} {pre : List (Int × Int)} {n v : Int} (h : ¬ (lo ≤ n ∧ n < hi)) : pkp lo hi (pre ++ [(n, v)]) = pkp lo hi pre := by
  have : (decide (lo ≤ n) && decide (n < hi)) = false := by
    rw [Bool.and_eq_false_iff]
    by_cases h1 : lo ≤ n
    · exact .inr (by simpa using fun h2 => h ⟨h1, h2⟩)
    · exact .inl (by simpa using h1)
  simp [pkp, List.filter_append, List.filter_cons, this]
theorem pkp_len (lo hi : Int) (pre : List (Int × Int)) : (pkp lo hi pre).length ≤ pre.length := by unfold pkp; rw [List.length_map]; exact List.length_filter_le _ _
theorem pkp_upto (f : Int) (l : List Int) (lo hi : Int) (k : Nat) : pkp lo hi (upto (allF f l) k) = pk f l lo hi k := by
  induction k with
  | zero => rfl
  | succ k ih =>
    rw [RingInput.upto_succ, pk]
    by_cases h : lo ≤ f + (k : Int) ∧ f + (k : Int) < hi
    · rw [if_pos h, ← ih]; exact pkp_yes h.1 h.2
    · rw [if_neg h, ← ih]; exact pkp_no h

def LInv (w W3 : World) (lo hi : Int) (pre : List (Int × Int)) (W : World) : Prop :=
  (∃ v, Blk W (w.heap.size + 1 + 1) 22 #[v] ∧ L W v (pkp lo hi pre) ∧ ∀ b, v.ownBlock = some b → w.heap.size + 4 ≤ b) ∧ KeepB (fun k => k < w.heap.size + 4 ∧ k ≠ w.heap.size + 1 + 1) W3 W ∧ Below w.heap.size w W
theorem LInv.own {w W3 : World} {lo hi : Int} (hz : W3.heap.size = w.heap.size + 4) : OwnFrom W3.heap.size (LInv w W3 lo hi) := by
  rintro s W W' row ⟨⟨v, hb, hl, ho⟩, hk, hB⟩ hg hr
  have hlt := hb.lt
  refine ⟨⟨v, hb.grown hg (fun e => row_ne hr hb e.symm), On.grown hl hg (row_ne_on hr hl), ho⟩, fun k hk2 => ?_, hB.grown hg hB.size (fun k e => by have := (hr k e).1; omega)⟩
  have h0 := hk k hk2
  have hlt3 : k < W.heap.size := by
    have : k < W3.heap.size := by have := hk2.1; omega
    exact (Array.getElem?_eq_some_iff.1 (h0.trans (Array.getElem?_eq_getElem this))).1
  exact (hg.block k hlt3 (fun e => by have := (hr k e.symm).1; have := hk2.1; omega)).trans h0

set_option maxRecDepth 100000 in
set_option maxHeartbeats 8000000 in
theorem list_any (w : World) (s : S) (x : Q) (lo hi : Int) (h : QAt w s x) (ok : Ok x) :
    Calls Try.prog 23 #[.pointer (some ⟨s.q, 0, none⟩), .int .i64 lo, .int .i64 hi] w fun e w' => ∃ v, e = .returned v ∧ Out w w' v (pk x.kf x.kl lo hi x.kl.length) := by
  obtain ⟨o1, o2, o3, o4, o5, o6⟩ := ok
  obtain ⟨i0, hi0, hz0, hz1, hz2⟩ := info_parts RingInput.info
  refine calls_of_wp_marks 9 Try.func23 rfl ?_
  simp only [Try.ntmps23, List.size_toArray, List.length_cons, List.length_nil, Nat.reduceAdd, Nat.reduceSub, Array.replicate_succ, Array.replicate_zero, List.push_toArray, List.append_toArray, List.nil_append, List.cons_append]
  obtain ⟨W1, hW1, hlo, hhi, hout, hB1, hzz⟩ : ∃ W1, W1 = ((w.alloc (.cells #[.int .i64 lo] 3)).alloc (.cells #[.int .i64 hi] 3)).alloc (.cells #[.slice none 0 0] 22) ∧ Blk W1 w.heap.size 3 #[.int .i64 lo] ∧ Blk W1 (w.heap.size + 1) 3 #[.int .i64 hi] ∧ Blk W1 (w.heap.size + 1 + 1) 22 #[.slice none 0 0] ∧ Below w.heap.size w W1 ∧ W1.heap.size = w.heap.size + 3 := by
    refine ⟨_, rfl, ((Blk.new _ _ _).alloc _).alloc _, ?_, ?_, (((Below.refl _ w).alloc (Nat.le_refl _) _).alloc (by simp) _).alloc (by simp; omega) _, by simp⟩
    · have := (Blk.new (w.alloc (.cells #[.int .i64 lo] 3)) 3 #[.int .i64 hi]).alloc (.cells #[.slice none 0 0] 22)
      simpa using this
    · have := Blk.new ((w.alloc (.cells #[.int .i64 lo] 3)).alloc (.cells #[.int .i64 hi] 3)) 22 #[.slice none 0 0]
      simpa using this
  have hQ := h.touch (Touch.of_below (S := noB) hB1) (fun _ _ hn => hn)
  obtain ⟨⟨c0, c1, c2, c3, c4⟩, f2, f4⟩ := hQ.cells
  have hltq := fp_lt h
  have pA := Lib.hid (RingInput.all_any W1 s.kr)
  go_upto_region 2 with fail
  rw [← hW1]
  clear hW1
  go_wp2_with fail
  refine pA.out.mono ?_
  rintro e w2 ⟨rfl, rfl⟩
  have hlo2 := hlo.alloc (.cells #[.pointer (some ⟨s.kr, 0, none⟩)] 117)
  have hhi2 := hhi.alloc (.cells #[.pointer (some ⟨s.kr, 0, none⟩)] 117)
  have hout2 := hout.alloc (.cells #[.pointer (some ⟨s.kr, 0, none⟩)] 117)
  have hbx2 : Blk (W1.alloc (.cells #[.pointer (some ⟨s.kr, 0, none⟩)] 117)) W1.heap.size 117 #[.pointer (some ⟨s.kr, 0, none⟩)] := Blk.new _ _ _
  have hA2 := hQ.2.1.alloc (.cells #[.pointer (some ⟨s.kr, 0, none⟩)] 117)
  have hB2 : Below w.heap.size w (W1.alloc (.cells #[.pointer (some ⟨s.kr, 0, none⟩)] 117)) := hB1.alloc (by omega) _
  have hz2' : (W1.alloc (.cells #[.pointer (some ⟨s.kr, 0, none⟩)] 117)).heap.size = w.heap.size + 4 := by simp; omega
  obtain ⟨W3, hW3⟩ : ∃ W3, W3 = W1.alloc (.cells #[.pointer (some ⟨s.kr, 0, none⟩)] 117) := ⟨_, rfl⟩
  rw [← hW3] at hlo2 hhi2 hout2 hbx2 hA2 hB2 hz2' ⊢
  rw [hzz] at hbx2
  clear hW3 c0 c1 c2 c3 c4 f2 f4
  go_wp2_with fail
  refine (wpIn_wide (n := 9)).1 ?_
  have hfpk : ∀ k, RingInput.fp s.kr s.ks k → k < w.heap.size := fun k hk => hltq k (.inr (.inl hk))
  refine' wpIn_rangeFunc_ownF (F := Fence.wide) (n := 9) rfl (by omega) (gf := 138) (lb := #[.pointer (some ⟨w.heap.size + 3, 0, none⟩)]) rfl trivial (enters_of Try.func138 (by kernel_rfl) rfl)
    (RingInput.all_stops Fence.wide 8 trivial rfl (by omega) (w.heap.size + 3) s.kr (fun k => k < w.heap.size + 4 ∧ k ≠ w.heap.size + 1 + 1) 256 x.kf s.ks x.kl W3 (fun k hk => by have := hk.1; omega) (hbx2.cell 0) hA2 (fun k hk => by have := hfpk k hk; exact ⟨by omega, by omega⟩) ⟨by omega, by omega⟩ o1 (by omega))
    RingInput.keepB_t (RingInput.keepB_b (m := W3.heap.size) (fun k hk => by have := hk.1; omega)) (Below.refl _ _) (fun _ => rfl)
    (LInv w W3 lo hi) (fun _ _ _ => False) (LInv.own hz2') (fun _ _ _ _ _ hs _ _ => hs.elim) ⟨⟨_, hout2, On.nil _ _ _, fun b hb => by simp [Value.ownBlock] at hb⟩, RingInput.keepB_refl _, hB2⟩ _ ?assign ?body ?done ?stop
  case assign =>
    intro l' y W K hK
    dsimp only [RingInput.encs]
    gi_wp2
    exact hK
  case stop =>
    rintro D c pre W hD hp hx _
    exact hx.elim
  case body =>
    rintro l' pre ⟨xn, xv⟩ W ⟨⟨v, hbo, hl, ho⟩, hk, hB⟩ hlt
    have q0 := RingInput.cell_keep (hlo2.cell 0) hk ⟨by omega, by omega⟩
    have q1 := RingInput.cell_keep (hhi2.cell 0) hk ⟨by omega, by omega⟩
    have q2 := hbo.cell 0
    have fb := hbo.frozen 0
    have hlen := pkp_len lo hi pre
    obtain ⟨ao, co, rfl, hlco, hcmo⟩ := hl.slice
    have hzW : w.heap.size + 4 ≤ W.heap.size := by
      have : w.heap.size + 3 < W3.heap.size := by omega
      have h0 := hk (w.heap.size + 3) ⟨by omega, by omega⟩
      have := (Array.getElem?_eq_some_iff.1 (h0.trans (Array.getElem?_eq_getElem this))).1
      omega
    clear hlo hhi hout hQ hlo2 hhi2 hout2 hbx2 hA2 hB2 hB1 pA
    by_cases c1 : lo ≤ xn
    · by_cases c2 : xn < hi
      · have hpk := Lib.hid (pkp_yes (pre := pre) (v := xv) c1 c2)
        generalize pkp lo hi pre = out at hl hpk hlen ho q2 hbo hlco
        gi_wp2_with (gi_at_builtin; refine wpListIn_append_on _ rfl (.tmp 25) (.tmp 27) _ rfl 30 i0 _ 1 2 Try.underlying22 hi0 hz0 hz1 hz2 rfl (by omega) (.slice ao out.length co) _ _ rfl (On.alloc hl (.cells #[.int .u16 xv] 30)) _ 1 1 [.int .u16 xv] rfl rfl (.inr ⟨_, rfl, cell_one_new _ _ _⟩) (by simp [Value.oneCell']) (by simp only [maxLen]; omega) (by omega) ?_; intro v' W4 hown4 hg4 hat4; obtain ⟨a', c', rfl, hlc', hcm'⟩ := hown4.slice; have hbo4 := (hbo.alloc (.cells #[.int .u16 xv] 30)).grown hg4 (fun e => by have := ho _ e.symm; omega); have g0 := hbo4.cell 0; have g1 := hbo4.frozen 0)
        have hT : Touch (fun k => k = w.heap.size + 1 + 1 ∨ w.heap.size + 4 ≤ k) W (W4.setCell ⟨w.heap.size + 1 + 1, 0, none⟩ (.slice a' (out.length + 1) c')) := (((Touch.refl _ W).alloc (.cells #[.int .u16 xv] 30)).grown hg4 (fun k hk => .inl (.inr (ho k hk)))).setCell (p := ⟨w.heap.size + 1 + 1, 0, none⟩) (.inl (.inl rfl)) _
        have hkp : KeepB (fun k => k < w.heap.size + 4 ∧ k ≠ w.heap.size + 1 + 1) W (W4.setCell ⟨w.heap.size + 1 + 1, 0, none⟩ (.slice a' (out.length + 1) c')) := fun k hk2 => hT.block k (by have := hk2.1; omega) (fun e => by have := hk2.1; have := hk2.2; omega)
        refine ⟨((KeepsOthers.alloc W _).trans (KeepsOthers.of_grownBy hg4 (fun j o hj ho2 => on_cells (On.alloc hl _) hj ho2))).trans (KeepsOthers.setCell _ _ _), hkp, ⟨_, hbo4.set_ 0 _, ?_, ?_⟩, RingInput.keepB_t hk hkp, hB.trans (hT.below hB.size (fun b hb => by rcases hb with e | e <;> omega))⟩
        · rw [hpk.out]
          have := On.far hown4 (p := ⟨w.heap.size + 1 + 1, 0, none⟩) (fun e => by
            rcases hat4 with e2 | e2
            · have := ho _ (e2.symm.trans e); dsimp only at this; omega
            · rw [e2] at e; simp at e; omega) (.slice a' (out.length + 1) c')
          unfold L
          simpa using this
        · intro b hb
          rcases hat4 with e2 | e2
          · exact ho b (e2.symm.trans hb)
          · rw [e2] at hb; cases hb; simp; omega
      · have hpk := Lib.hid (pkp_no (pre := pre) (v := xv) (fun h => c2 h.2 : ¬ (lo ≤ xn ∧ xn < hi)))
        gi_wp2
        exact ⟨KeepsOthers.refl _, RingInput.keepB_refl _, ⟨_, hbo, by rw [hpk.out]; exact hl, ho⟩, hk, hB⟩
    · have hpk := Lib.hid (pkp_no (pre := pre) (v := xv) (fun h => c1 h.1 : ¬ (lo ≤ xn ∧ xn < hi)))
      have c1' : decide (lo ≤ xn) = false := by simpa using c1
      gi_wp2
      exact ⟨KeepsOthers.refl _, RingInput.keepB_refl _, ⟨_, hbo, by rw [hpk.out]; exact hl, ho⟩, hk, hB⟩
  case done =>
    rintro D ys W hD rfl ⟨⟨v, hbo, hl, ho⟩, hk, hB⟩ hKd
    rw [pkp_upto] at hl
    have g0 := hbo.cell 0
    obtain ⟨ao, co, rfl, hlco, hcmo⟩ := hl.slice
    clear hlo hhi hout hQ hlo2 hhi2 hout2 hbx2 hA2 hB2 hB1 pA
    dsimp only
    go_wp2
    refine ⟨by simp, .inl ⟨_, _, rfl, run_takeDeferred hKd, ?_⟩⟩
    have hz3 := hB.size
    have hbl : Below w.heap.size w (W.putObj D (.deferred none)) := hB.trans (belowK_b (w := W3) (by omega) _ D _ _ (by omega) hKd rfl rfl)
    refine ⟨.slice ao (pk x.kf x.kl lo hi x.kl.length).length co, ?_, _, rfl, On.grown hl (grownBy_putObj' _ D (.deferred none)) (row_ne_on (B := W3.heap.size) (fun r e => by cases e; exact ⟨by omega, _, hKd, rfl⟩) hl), hbl, fun b hb => by have := ho b hb; omega⟩
    simp [results, Try.results23, go_sem]
end InputqP
end Go.Proofs.Ythdppaohagghbaa
