/-
  meter: what a table tells, whatever its sum: Count, Many, Sum, Least, Most, Mean, All as a range over a function.
-/
import Derived.Test.YtmceaffoffemlaaMetE
import Derived.Test.YtmceaffoffemlaaNum3
import Derived.RangeFuncNested
import Derived.RangeFuncBound
import Derived.RangeFuncCalls
import Derived.RangeFuncLeaves
import Derived.RangeFuncFrom
import Derived.RangeFuncBox
import Derived.Shelf.Abstract
import Derived.Shelf.RegionOpen
import Derived.OwnWalkIn
import Derived.TacticsInMore
import Derived.LoopNIn
import Derived.LoopIn
namespace Go.Proofs.Ytmceaffoffemlaa.Met
open Go.RowKit Go.Shelf
set_option linter.all false
attribute [local go_sem] Oper.semAt_some

/-- A table, with whatever sum. -/
structure TS (W : World) (t : Nat) (bv cv : Value) (bs ls : List Int) (s : Int) : Prop where
  box : Blk W t 97 (tb bv cv ls.length s (lo ls) (hi ls))
  b : On W 3 1 bv bs.length (bs.map (.int .i64))
  c : On W 3 1 cv (bs.length + 1) ((cts bs ls).map (.int .i64))
theorem TAt.ts {W : World} {t : Nat} {bv cv : Value} {bs ls : List Int} (h : TAt W t bv cv bs ls) : TS W t bv cv bs ls (sat ls) := ⟨h.box, h.b, h.c⟩
/-- These blocks are kept. -/
def KeepB (K : Nat → Prop) (A B : World) : Prop := ∀ k, K k → B.heap[k]? = A.heap[k]?
theorem keepB_t {K : Nat → Prop} {A B C : World} (h : KeepB K A B) (h' : KeepB K B C) : KeepB K A C := fun k hk => (h' k hk).trans (h k hk)
theorem keepB_b {K : Nat → Prop} {m : Nat} (hK : ∀ k, K k → k < m) (W : World) (l : Nat) (o o' : Obj) (hl : m ≤ l) (_ : W.heap[l]? = some o) (_ : o.isCells = false) (_ : o.isWalk = false) : KeepB K W (W.putObj l o') :=
  fun k hk => World.putObj_heap_other (by have := hK k hk; omega)
theorem keepB_refl {K : Nat → Prop} (A : World) : KeepB K A A := fun _ _ => rfl
theorem cell_keep {K : Nat → Prop} {w w' : World} {b o : Nat} {v : Value} (h : w.cell? ⟨b, o, none⟩ = some v) (hb : KeepB K w w') (hK : K b) : w'.cell? ⟨b, o, none⟩ = some v :=
  (World.cell?_of_block (w := w) (a := ⟨b, o, none⟩) (hb b hK)).trans h
def tfp (t : Nat) (bv cv : Value) : Nat → Prop := fun k => k = t ∨ bv.ownBlock = some k ∨ cv.ownBlock = some k
section
variable {W W' : World} {t : Nat} {bv cv : Value} {bs ls : List Int} {s : Int}
theorem TS.keep {K : Nat → Prop} (h : TS W t bv cv bs ls s) (hb : KeepB K W W') (hB : ∀ k, tfp t bv cv k → K k) : TS W' t bv cv bs ls s :=
  ⟨(hb t (hB t (.inl rfl))).trans h.box, h.b.of_heap fun g hg => hb g (hB g (.inr (.inl hg))), h.c.of_heap fun g hg => hb g (hB g (.inr (.inr hg)))⟩
theorem TS.below (h : TS W t bv cv bs ls s) (hb : Below W.heap.size W W') : TS W' t bv cv bs ls s := ⟨h.box.below hb h.box.lt, h.b.below hb h.b.lt, h.c.below hb h.c.lt⟩
theorem TS.lt (h : TS W t bv cv bs ls s) : ∀ k, tfp t bv cv k → k < W.heap.size := by
  rintro k (rfl | e | e)
  · exact h.box.lt
  · exact h.b.lt k e
  · exact h.c.lt k e
theorem TS.cells (h : TS W t bv cv bs ls s) :
    ∃ ab cb gc cc, bv = .slice ab bs.length cb ∧ cv = .slice (some ⟨gc, 0, none⟩) (bs.length + 1) cc ∧ Row .i64 W ab bs.length bs ∧ bs.length + 1 ≤ cc ∧ (∀ j, j < bs.length + 1 → W.cell? ⟨gc, j, none⟩ = some (.int .i64 (cnt bs ls j))) ∧
      W.cell? ⟨t, 0, none⟩ = some bv ∧ W.cell? ⟨t, 1, none⟩ = some cv ∧ W.cell? ⟨t, 2, none⟩ = some (.int .i64 ls.length) ∧ W.cell? ⟨t, 3, none⟩ = some (.int .i64 s) ∧ W.cell? ⟨t, 4, none⟩ = some (.int .i64 (lo ls)) ∧ W.cell? ⟨t, 5, none⟩ = some (.int .i64 (hi ls)) := by
  rcases h.c.form with ⟨_, h0, _⟩ | ⟨gc, cc, rfl, hcc, hcm, hown, hgc, hcell, hfr⟩
  · omega
  obtain ⟨ab, cb, rfl, hlb, hbm⟩ := h.b.slice
  exact ⟨ab, cb, gc, cc, rfl, rfl, on_row h.b, hcc, fun j hj => hcell _ _ (by rw [List.getElem?_map, nth_some (by rw [cts_len]; omega), cts_nth hj]; rfl), h.box.cell 0, h.box.cell 1, h.box.cell 2, h.box.cell 3, h.box.cell 4, h.box.cell 5⟩
end
theorem count_ts (w : World) (t : Nat) (bv cv : Value) (bs ls : List Int) (s p : Int) (h : TS w t bv cv bs ls s) :
    Calls Try.prog 50 #[.pointer (some ⟨t, 0, none⟩), .int .i64 p] w fun e w' => e = .returned (.int .i64 (countI bs ls p)) ∧ w = w' := by
  obtain ⟨ab, cb, gc, cc, rfl, rfl, hr, hcc, hcell, c0, c1, _⟩ := h.cells
  clear h hr
  by_cases h1 : p < 0
  · have e := Lib.hid (show countI bs ls p = 0 by simp [countI, h1])
    go_enter Try.func50, Try.ntmps50
    go_wp2_with fail
    go_ret
    exact ⟨ret_int e.out.symm, rfl⟩
  · by_cases h2 : (bs.length : Int) + 1 ≤ p
    · have e := Lib.hid (show countI bs ls p = 0 by simp [countI, h2])
      go_enter Try.func50, Try.ntmps50
      go_wp2_with fail
      go_ret
      exact ⟨ret_int e.out.symm, rfl⟩
    · obtain ⟨k, rfl⟩ : ∃ k : Nat, p = k := ⟨p.toNat, by omega⟩
      have e := Lib.hid (show countI bs ls k = cnt bs ls k by unfold countI; rw [if_neg (by omega)]; rfl)
      have ck := hcell k (by omega)
      have i1 : (0 : Int) ≤ (k : Int) := by omega
      have i2 : (k : Int) < (bs.length : Int) + 1 := by omega
      clear hcell
      go_enter Try.func50, Try.ntmps50
      go_wp2_with fail
      go_ret
      exact ⟨ret_int e.out.symm, rfl⟩
theorem many_ts (w : World) (t : Nat) (bv cv : Value) (bs ls : List Int) (s : Int) (h : TS w t bv cv bs ls s) :
    Calls Try.prog 56 #[.pointer (some ⟨t, 0, none⟩)] w fun e w' => e = .returned (.int .i64 ls.length) ∧ w = w' := by
  obtain ⟨ab, cb, gc, cc, rfl, rfl, hr, hcc, hcell, c0, c1, c2, c3, c4, c5⟩ := h.cells
  clear h hr hcell
  go_enter Try.func56, Try.ntmps56
  go_wp2_with fail
  go_ret
  exact ⟨rfl, rfl⟩
theorem sum_ts (w : World) (t : Nat) (bv cv : Value) (bs ls : List Int) (s : Int) (h : TS w t bv cv bs ls s) :
    Calls Try.prog 57 #[.pointer (some ⟨t, 0, none⟩)] w fun e w' => e = .returned (.int .i64 s) ∧ w = w' := by
  obtain ⟨ab, cb, gc, cc, rfl, rfl, hr, hcc, hcell, c0, c1, c2, c3, c4, c5⟩ := h.cells
  clear h hr hcell
  go_enter Try.func57, Try.ntmps57
  go_wp2_with fail
  go_ret
  exact ⟨rfl, rfl⟩
theorem least_ts (w : World) (t : Nat) (bv cv : Value) (bs ls : List Int) (s : Int) (h : TS w t bv cv bs ls s) :
    Calls Try.prog 58 #[.pointer (some ⟨t, 0, none⟩)] w fun e w' => e = .returned (.int .i64 (lo ls)) ∧ w = w' := by
  obtain ⟨ab, cb, gc, cc, rfl, rfl, hr, hcc, hcell, c0, c1, c2, c3, c4, c5⟩ := h.cells
  clear h hr hcell
  go_enter Try.func58, Try.ntmps58
  go_wp2_with fail
  go_ret
  exact ⟨rfl, rfl⟩
theorem most_ts (w : World) (t : Nat) (bv cv : Value) (bs ls : List Int) (s : Int) (h : TS w t bv cv bs ls s) :
    Calls Try.prog 59 #[.pointer (some ⟨t, 0, none⟩)] w fun e w' => e = .returned (.int .i64 (hi ls)) ∧ w = w' := by
  obtain ⟨ab, cb, gc, cc, rfl, rfl, hr, hcc, hcell, c0, c1, c2, c3, c4, c5⟩ := h.cells
  clear h hr hcell
  go_enter Try.func59, Try.ntmps59
  go_wp2_with fail
  go_ret
  exact ⟨rfl, rfl⟩
theorem mean_ts (w : World) (t : Nat) (bv cv : Value) (bs ls : List Int) (s : Int) (h : TS w t bv cv bs ls s) (hs : -9223372036854775808 ≤ s ∧ s ≤ 9223372036854775807) (hl : ls.length ≤ 1000) :
    Calls Try.prog 60 #[.pointer (some ⟨t, 0, none⟩)] w fun e w' => e = .returned (.int .i64 (Num.floorV s ls.length)) ∧ ∃ n, w' = w.drewN n := by
  obtain ⟨ab, cb, gc, cc, rfl, rfl, hr, hcc, hcell, c0, c1, c2, c3, c4, c5⟩ := h.cells
  have p2 := Lib.hid (fun n => (Num.wfloor_any (w.drewN n) s ls.length hs.1 hs.2 (by omega) (by omega)).mono (R' := fun e w'' => e = .returned (.int .i64 (Num.floorV s ls.length)) ∧ ∃ m, w'' = w.drewN m) (fun _ _ h => ⟨h.1, _, h.2.symm⟩))
  clear h hr hcell
  go_enter Try.func60, Try.ntmps60
  go_upto_region 1 with fail
  go_quiet (exact p2.out _)
  go_wp2_with fail
  go_ret
  exact ⟨rfl, _, rfl⟩

/-! ### All -/
def upto {α : Type} (f : Nat → α) (k : Nat) : List α := (List.range k).map f
theorem upto_succ {α : Type} (f : Nat → α) (k : Nat) : upto f (k + 1) = upto f k ++ [f k] := by simp [upto, List.range_succ]
theorem upto_length {α : Type} (f : Nat → α) (k : Nat) : (upto f k).length = k := by simp [upto]
def encs (x : Int × Int) : Array Value := #[.int .i64 x.1, .int .i64 x.2]
def allF (bs ls : List Int) (j : Nat) : Int × Int := (if j < bs.length then nth bs j else hi ls, (cnt bs ls j : Int))
set_option maxRecDepth 100000 in
set_option maxHeartbeats 1000000 in
theorem all_any (w : World) (t : Nat) :
    Calls Try.prog 61 #[.pointer (some ⟨t, 0, none⟩)] w fun e w' => e = .returned (.func (.func 80) #[] #[.pointer (some ⟨w.heap.size, 0, none⟩)]) ∧ w.alloc (.cells #[.pointer (some ⟨t, 0, none⟩)] 36) = w' := by
  have hmf : ∀ (fn : Fn) (first cap : Array Value) (w : World), (Instr.makeFunc fn first cap).run Try.prog w = .ok (.func fn first cap) w := fun _ _ _ _ => rfl
  go_enter Try.func61, Try.ntmps61
  go_wp2
  go_ret
  exact ⟨rfl, rfl⟩

set_option maxRecDepth 100000 in
set_option maxHeartbeats 4000000 in
theorem all1_in (F : Fence) (n : Nat) (hf : F.fn 80) (hro : F.round = none) (hn : 1 ≤ n) (lo_ Bx t : Nat) (K : Nat → Prop) (bv cv : Value) (bs ls : List Int) (s : Int) (J Jx : List (Int × Int) → World → Prop)
    (hY : ∀ pre x W1, J pre W1 → pre.length < bs.length + 1 → YieldAt F (n - 1) Try.prog lo_ (encs x) W1 fun e W' =>
      (e = .returned (.bool true) ∧ J (pre ++ [x]) W' ∧ KeepB K W1 W') ∨ (e = .returned (.bool false) ∧ Jx (pre ++ [x]) W'))
    (W : World) (hc : W.cell? ⟨Bx, 0, none⟩ = some (.pointer (some ⟨t, 0, none⟩))) (hA : TS W t bv cv bs ls s) (hfp : ∀ k, tfp t bv cv k → K k) (hBx : K Bx) (h64 : bs.length ≤ 64) (hJ0 : J [] W) :
    CallsIn F n Try.prog 80 #[.func (.yield lo_) #[] #[], .pointer (some ⟨Bx, 0, none⟩)] W fun e W' => (∃ v, e = .returned v) ∧
      ((∃ ys, ys = upto (allF bs ls) (bs.length + 1) ∧ J ys W') ∨ (∃ pre, (∃ k, k ≤ bs.length + 1 ∧ pre = upto (allF bs ls) k) ∧ Jx pre W')) := by
  obtain ⟨ab, cb, gc, cc, rfl, rfl, hr, hcc, hcell, c0, c1, c2, c3, c4, c5⟩ := hA.cells
  refine callsIn_of_wp Try.func80 rfl hf ?_ hro
  simp only [Try.ntmps80, List.size_toArray, List.length_cons, List.length_nil, Nat.reduceAdd, Nat.reduceSub, Array.replicate_succ, Array.replicate_zero, List.push_toArray, List.append_toArray, List.nil_append, List.cons_append]
  gi_wp2
  gi_loopw [11] (fun i wr => ∃ k : Nat, k ≤ bs.length + 1 ∧ i = .int .i64 k ∧ J (upto (allF bs ls) k) wr ∧ KeepB K W wr) (fun i _ => bs.length + 1 - (intOf i).toNat)
  case atStart => exact ⟨0, Nat.zero_le _, rfl, hJ0, keepB_refl _⟩
  case round =>
    obtain ⟨k, hk, rfl, hJs, hkp⟩ := hrel
    have hA2 := hA.keep hkp hfp
    obtain ⟨ab', cb', gc', cc', e1', e2', hr', hcc', hcell', d0, d1, d2, d3, d4, d5⟩ := hA2.cells
    cases e1'; cases e2'
    have hcb := cell_keep hc hkp hBx
    by_cases hlt : k < bs.length + 1
    · have ck := hcell' k hlt
      have i0 : (0 : Int) ≤ (k : Int) := by omega
      have i1 : (k : Int) < (bs.length : Int) + 1 := by omega
      obtain ⟨fn, tmps, assign, body, hy, hR⟩ := hY _ (allF bs ls k) wr hJs (by rw [upto_length]; exact hlt)
      dsimp only [encs, allF] at hy
      have US := Lib.hid (upto_succ (allF bs ls) k)
      clear hcell hcell' hJs hY hc c0 c1 c2 c3 c4 c5
      by_cases hb : k < bs.length
      · obtain ⟨gb, ob, rfl, hgb, hcbs⟩ := hr'.2 (by omega)
        have cbk := hcbs k hb
        have i2 : (k : Int) < (bs.length : Int) := by omega
        rw [if_pos hb] at hy
        clear hcbs hr hr'
        gi_wp2
        refine hR.mono ?_
        rintro e W3 (⟨rfl, hJ3, hk3⟩ | ⟨rfl, hJx3⟩)
        · gi_wp2
          go_roundw
          case rel => exact ⟨k + 1, by omega, by simp, by rw [US.out]; exact hJ3, keepB_t hkp hk3⟩
          case measure => simp [intOf]; omega
        · gi_wp2
          refine bodyPost_ret (results_none rfl _ _ _) rfl ?_
          exact ⟨⟨_, rfl⟩, .inr ⟨_, ⟨k + 1, by omega, US.out.symm⟩, hJx3⟩⟩
      · have i2 : ¬ (k : Int) < (bs.length : Int) := by omega
        rw [if_neg hb] at hy
        clear hr hr'
        gi_wp2
        refine hR.mono ?_
        rintro e W3 (⟨rfl, hJ3, hk3⟩ | ⟨rfl, hJx3⟩)
        · gi_wp2
          go_roundw
          case rel => exact ⟨k + 1, by omega, by simp, by rw [US.out]; exact hJ3, keepB_t hkp hk3⟩
          case measure => simp [intOf]; omega
        · gi_wp2
          refine bodyPost_ret (results_none rfl _ _ _) rfl ?_
          exact ⟨⟨_, rfl⟩, .inr ⟨_, ⟨k + 1, by omega, US.out.symm⟩, hJx3⟩⟩
    · obtain rfl : k = bs.length + 1 := by omega
      clear hcell hcell' hr hr'
      gi_wp2
      go_end0
      exact ⟨⟨_, rfl⟩, .inl ⟨_, rfl, hJs⟩⟩

theorem all_stops (F : Fence) (n : Nat) (hf : F.fn 80) (hro : F.round = none) (hn : 1 ≤ n) (Bx t : Nat) (K : Nat → Prop) (bv cv : Value) (bs ls : List Int) (s : Int) (w : World) (hK : ∀ k, K k → k < w.heap.size)
    (hc : w.cell? ⟨Bx, 0, none⟩ = some (.pointer (some ⟨t, 0, none⟩))) (hA : TS w t bv cv bs ls s) (hfp : ∀ k, tfp t bv cv k → K k) (hBx : K Bx) (h64 : bs.length ≤ 64) :
    SeqStopsK F n Try.prog 80 #[.pointer (some ⟨Bx, 0, none⟩)] encs (KeepB K) (fun ys => ys = upto (allF bs ls) (bs.length + 1)) (fun pre => ∃ k, k ≤ bs.length + 1 ∧ pre = upto (allF bs ls) k) (bs.length + 1) w := fun lo_ J Jx W hW _ _ hY hJ0 => by
  have hkb : KeepB K w W := fun k hk => hW.block k (hK k hk)
  exact all1_in F n hf hro hn lo_ Bx t K bv cv bs ls s J Jx hY W (cell_keep hc hkb hBx) (hA.keep hkb hfp) hfp hBx h64 hJ0
end Go.Proofs.Ytmceaffoffemlaa.Met
