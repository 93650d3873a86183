/-
  Texts joined: RingEC, RingED, RingEE. No condition.
-/
import Derived.Test.YtckkpgopddnkiaaBSpectWatches10
import Derived.Great.BuildSlice
import Derived.RangeFuncNested
import Derived.RangeFuncBound
import Derived.RangeFuncCalls
import Derived.RangeFuncLeaves
import Derived.RangeFuncFrom
import Derived.RangeFuncBox
import Derived.Shelf.Abstract
import Derived.Shelf.RegionOpen
import Derived.OwnWalkIn
import Derived.TacticsInMore
import Derived.LoopNIn
import Derived.LoopIn
namespace Go.Proofs.Ytckkpgopddnkiaa.RingE
open Go.RowKit Go.Sort Go.Proofs.Ytckkpgopddnkiaa.Gm
set_option linter.all false

theorem exec_ldE (ev : Operand → Value) (dst : Option Tmp) (x : Operand) (ty : TypeId) (pos : String) (after : Array Edge) (guard : Option (Nat × Bool)) (w : World) :
    (execOp ev { dst := dst, op := Op.load 182 x, type := ty, pos := pos, after := after, guard := guard }).run Try.prog w = loadR Try.prog 182 (ev x) w := exec_load ..
theorem loadRE_at (w : World) (g : Nat) (h : (cellsAt w g).size = 67) : loadR Try.prog 182 (.pointer (some ⟨g, 0, none⟩)) w = .ok (.value (.agg (cellsAt w g))) w := by
  obtain ⟨t, hg⟩ := cellsAt_inv (w := w) (g := g) (by omega)
  unfold loadR
  simp only [Instr.loadAt, Instr.sureAddr, Sem.run_bind, Sem.run_pure, Result.andThen_ok, run_loadVar_row w g t 182 (cellsAt w g) (0, 0) _ hg Try.underlying182 rfl (by rw [h]; exact infoE)]
def bsR (P : Program) (v : Value) (w : World) : Result Next := (Sem.run P (Instr.buildSlice 204 1 #[(0, v)]) w).andThen fun u w' => .ok (.value u) w'
theorem exec_bsE (ev : Operand → Value) (dst : Option Tmp) (x : Operand) (ty : TypeId) (pos : String) (after : Array Edge) (guard : Option (Nat × Bool)) (w : World) :
    (execOp ev { dst := dst, op := Op.buildSlice 204 1 #[(0, x)], type := ty, pos := pos, after := after, guard := guard }).run Try.prog w = bsR Try.prog (ev x) w := by
  unfold execOp bsR
  simp only [Sem.run_bind, Sem.run_pure, List.map_toArray, List.map_cons, List.map_nil]
theorem bsR_at (w : World) (E : Array Value) (h : E.size = 67) : bsR Try.prog (.agg E) w = .ok (.value (.slice (some ⟨w.heap.size, 0, none⟩) 1 1)) (w.alloc (.cells E 182)) := by
  obtain ⟨i0, hi0, hz0, hz1, hz2⟩ := info_parts info
  have hf := Great.fill_whole (s := 67) (by omega) [Value.agg E] ((Array.range (1 * i0.size)).map ((Value.agg Try.zeroCells182).cells[· % (Value.agg Try.zeroCells182).cells.size]!)) (fun v hv => by obtain rfl := List.mem_singleton.1 hv; exact h) (by simp [hz1])
  unfold bsR
  rw [run_buildSlice w 204 182 1 #[(0, .agg E)] E i0 _ Try.underlying204 hi0 hz0 (by rw [hz1]; omega) (by rw [hz1]; omega) (by
    rw [hz1] at hf ⊢
    refine hf.trans ?_
    simp [Value.cells])]
  rfl
attribute [local go_sem ↓] exec_ldE exec_bsE
attribute [local go_sem] loadRE_at bsR_at cellsAt_drew

/-- What a call leaves: a ring, in its own blocks or new ones; nothing else has turned. -/
def Turned (w : World) (r : Nat) (sv : Value) (room first : Int) (l : List NT) (w' : World) : Prop :=
  ∃ sv', At w' r room first sv' l ∧ Touch (fp r sv) w w' ∧ ∀ k, fp r sv' k → fp r sv k ∨ w.heap.size ≤ k

def putF (room first : Int) (l : List NT) : Int := if (l.length : Int) = room then first + 1 else first
def putL (room : Int) (l : List NT) (v : NT) : List NT := (if (l.length : Int) = room then l.drop 1 else l) ++ [v]

/-- The list's end, in new memory. -/
theorem shift_ok {w w1 W : World} {r g c k n : Nat} {room first : Int} {l : List NT} {a' : Option Addr} {c' : Nat} (h : At w r room first (.slice (some ⟨g, 0, none⟩) l.length c) l) (hW : W.heap = w.heap) (hg : W.grownBy w1 (Value.slice (some ⟨g, 0, none⟩) 0 0).ownBlock)
    (hT : Touch (fp r (.slice (some ⟨g, 0, none⟩) l.length c)) w W) (hn : n = (l.drop k).length)
    (hown : On w1 182 67 (.slice a' n c') n ((flat cs l).drop (k * 67))) (hat : (Value.slice a' n c').ownBlock = (Value.slice (some ⟨g, 0, none⟩) 0 0).ownBlock ∨ (Value.slice a' n c').ownBlock = some W.heap.size) (f' : Int) :
    Turned w r (.slice (some ⟨g, 0, none⟩) l.length c) room f' (l.drop k) ((w1.setCell ⟨r, 2, none⟩ (.slice a' n c')).setCell ⟨r, 1, none⟩ (.int .i64 f')) := by
  subst hn
  have hne := h.ne_
  have hb1 : Blk w1 r _ _ := Blk.grown' hg (by unfold Blk; rw [hW]; exact h.1) (by exact hne)
  have hb3 := (hb1.set_ 2 (.slice a' (l.drop k).length c')).set_ 1 (.int .i64 f')
  refine ⟨.slice a' (l.drop k).length c', ⟨hb3, ?_⟩, ?_, ?_⟩
  · have := (hown.far (p := ⟨r, 2, none⟩) (hown.blk_ne hb1 (by decide)) (.slice a' (l.drop k).length c')).far (p := ⟨r, 1, none⟩) (hown.blk_ne hb1 (by decide)) (.int .i64 f')
    rw [flat_drop cs_len] at this
    exact this
  · exact ((hT.grown hg (fun k hk => .inl (.inr hk))).setCell (.inl (.inl rfl)) _).setCell (.inl (.inl rfl)) _
  · exact fun k hk => hk.elim (fun e => .inl (.inl e)) (fun e => (own_le hat (by rw [hW]; exact Nat.le_refl _) k e).imp .inr id)

theorem Turned.base {w W w' : World} {r : Nat} {sv : Value} {room f : Int} {l : List NT} (h : Turned W r sv room f l w') (hb : Below w.heap.size w W) : Turned w r sv room f l w' := by
  obtain ⟨sv', hA, hT, hF⟩ := h
  exact ⟨sv', hA, (Touch.of_below (S := fp r sv) hb).trans hT (fun k hk => .inl hk), fun k hk => (hF k hk).imp id (fun e => Nat.le_trans hb.size e)⟩

set_option maxRecDepth 100000 in
set_option maxHeartbeats 4000000 in
theorem put_any (w : World) (r : Nat) (room first : Int) (x : NT) (E : Array Value) (LE : EL E x) (sv : Value) (l : List NT) (h : At w r room first sv l) (h0 : 0 ≤ first) (h1 : first + l.length ≤ 4611686018427387904) (hl : l.length ≤ 4096) (hroom : 0 < room) :
    Calls Try.prog 118 #[.pointer (some ⟨r, 0, none⟩), .agg E] w fun e w' => e = .returned (.int .i64 (first + l.length)) ∧ Turned w r sv room (putF room first l) (putL room l x) w' := by
  obtain ⟨i0, hi0, hz0, hz1, hz2⟩ := info_parts info
  have hb0 : Below w.heap.size w (w.alloc (.cells E 182)) := (Below.refl _ w).alloc (Nat.le_refl _) _
  have hbx : Blk (w.alloc (.cells E 182)) w.heap.size 182 E := Blk.new _ _ _
  have hlt0 := h.lt
  have hA := h.alloc (.cells E 182)
  obtain ⟨W0, hW0⟩ : ∃ W0, W0 = w.alloc (.cells E 182) := ⟨_, rfl⟩
  have hz : W0.heap.size = w.heap.size + 1 := by rw [hW0]; simp
  rw [← hW0] at hA hbx hb0
  have hbfp : ¬ fp r sv w.heap.size := fun e => by have := hlt0 _ e; omega
  clear h
  obtain ⟨⟨c0, c1, c2⟩, f0, f1, f2⟩ := hA.cells
  have hlt := hA.1.lt
  have hne := hA.ne_
  obtain ⟨a, c, rfl, hlc, hcm, hsv⟩ := hA.slc
  have hp := Lib.hid (next_any W0 r room first _ l hA h0 h1)
  have hsv' := Lib.hid hsv
  have HZ := Lib.hid hz
  clear hsv hz
  go_enter Try.func118, Try.ntmps118
  go_upto_region 1 with fail
  rw [← hW0]
  clear hW0
  go_wp2_with fail
  refine hp.out.mono ?_
  rintro e w' ⟨rfl, nq_1, rfl⟩
  go_wp2_with fail
  go_quiet (fail)
  go_upto_if 17 with fail
  go_cut [] (fun wx => Turned W0 r (.slice a l.length c) room (putF room first l) (if (l.length : Int) = room then l.drop 1 else l) wx)
  case first =>
    by_cases hr : ((l.length : Int) == room) = true
    · have hre : (l.length : Int) = room := by simpa using hr
      obtain ⟨g, rfl, hgr, hcell⟩ := hsv'.out (by omega)
      have hown0 : On W0 182 67 (.slice (some ⟨g, 0, none⟩) 0 0) 0 [] := by simpa using hA.2.cut (Nat.zero_le _)
      clear hcell
      unfold maxLen at hcm
      have hlp : (1 : Int) ≤ (l.length : Int) := by omega
      have hlp2 : (1 : Int) ≤ (c : Int) := by omega
      have hsrc := Lib.hid (src_drop_n hA.2 1)
      have hq1 : 0 + (l.length - 1) ≤ maxLen := by simp only [maxLen]; omega
      have hq2 : (0 + (l.length - 1)) * 536 ≤ 140737488355328 := by omega
      have hE := Lib.hid hre
      have hdl : ((flat cs l).drop (1 * 67)).length = (l.length - 1) * 67 := by rw [flat_drop cs_len, flat_len cs_len, List.length_drop]
      have hDL := Lib.hid hdl
      have hone : ∀ u ∈ (flat cs l).drop (1 * 67), u.oneCell' = true := fun u hu => one_flat cs_one l u (List.mem_of_mem_drop hu)
      have hONE := Lib.hid hone
      clear hre hdl hone
      by_cases hc1 : c = 1
      · subst hc1
        have hl1 := Lib.hid (show l.length = 1 by omega)
        go_wp2_with fail
        go_region_law (refine step_append_on _ (by rfl) (.tmp 23) (.tmp 28) _ (by rfl) 182 i0 _ 67 536 Try.underlying204 hi0 hz0 hz1 hz2 rfl (by omega) (.slice (some ⟨g, 0, none⟩) 0 0) 0 [] (by rfl) (by exact hown0) (some ⟨g, 0, none⟩) 0 0 [] (by rfl) (by rfl) (.inl ⟨rfl, rfl⟩) (fun _ hu => by cases hu) (by simp [maxLen]) (by omega) ?_; intro v' w1 hown1 hg1 hat1; obtain ⟨a', c', rfl, hlc', hcm'⟩ := hown1.slice; have hb1 := Blk.grown' hg1 (by exact hA.1) (by exact hne); have k1 : w1.cell? ⟨r, 1, none⟩ = some (.int .i64 first) := hb1.cell 1; have k2 : w1.cell? ⟨r, 2, none⟩ = some (.slice (some ⟨g, 0, none⟩) l.length 1) := hb1.cell 2; have kf := hb1.frozen 2; have kf1 := hb1.frozen 1)
        all_goals
          go_wp2_with fail
          go_meet
          have hd : l.drop 1 = [] := List.eq_nil_of_length_eq_zero (by rw [List.length_drop, hl1.out])
          simp only [Nat.add_zero, List.append_nil] at hown1 hat1
          rw [putF, if_pos hE.out, if_pos hE.out]
          exact shift_ok hA (by rfl) hg1 ⟨rfl, rfl, rfl, Nat.le_refl _, fun _ _ _ => rfl⟩ (by rw [hd]; rfl) (by rw [flat_drop cs_len, hd]; exact hown1) hat1 _
      · go_wp2_with fail
        go_region_law (refine step_append_on _ (by rfl) (.tmp 23) (.tmp 28) _ (by rfl) 182 i0 _ 67 536 Try.underlying204 hi0 hz0 hz1 hz2 rfl (by omega) (.slice (some ⟨g, 0, none⟩) 0 0) 0 [] (by rfl) (by exact hown0) (some ⟨g, 67, none⟩) (l.length - 1) (c - 1) ((flat cs l).drop (1 * 67)) (by rfl) (by exact hDL.out) (by exact hsrc.out) (by exact hONE.out) hq1 hq2 ?_; intro v' w1 hown1 hg1 hat1; obtain ⟨a', c', rfl, hlc', hcm'⟩ := hown1.slice; have hb1 := Blk.grown' hg1 (by exact hA.1) (by exact hne); have k1 : w1.cell? ⟨r, 1, none⟩ = some (.int .i64 first) := hb1.cell 1; have k2 : w1.cell? ⟨r, 2, none⟩ = some (.slice (some ⟨g, 0, none⟩) l.length c) := hb1.cell 2; have kf := hb1.frozen 2; have kf1 := hb1.frozen 1)
        all_goals
          go_wp2_with fail
          go_meet
          simp only [Nat.zero_add, List.nil_append] at hown1 hat1
          rw [putF, if_pos hE.out, if_pos hE.out]
          exact shift_ok hA (by rfl) hg1 ⟨rfl, rfl, rfl, Nat.le_refl _, fun _ _ _ => rfl⟩ (by simp) hown1 hat1 _
    · have hr2 : ((l.length : Int) == room) = false := by simpa using hr
      clear hr
      go_wp2_with fail
      go_meet
      have hne2 : ¬ (l.length : Int) = room := by simpa using hr2
      rw [putF, if_neg hne2, if_neg hne2]
      exact ⟨_, hA, ⟨rfl, rfl, rfl, Nat.le_refl _, fun _ _ _ => rfl⟩, fun k hk => .inl hk⟩
  case rest =>
    obtain ⟨sv1, hA1, hT, hF⟩ := hcut
    have hln : (if (l.length : Int) = room then l.drop 1 else l).length ≤ 4096 := by split <;> first | omega | (rw [List.length_drop]; omega)
    have hPL := Lib.hid (show putL room l x = (if (l.length : Int) = room then l.drop 1 else l) ++ [x] from rfl)
    generalize (if (l.length : Int) = room then l.drop 1 else l) = l1 at hA1 hln hPL
    obtain ⟨first1, hf1⟩ : ∃ x, x = putF room first l := ⟨_, rfl⟩
    rw [← hf1] at hA1
    have hfirst := Lib.hid hf1
    clear hf1
    obtain ⟨⟨d0, d1, d2⟩, e0, e1, e2⟩ := hA1.cells
    have hne1 := hA1.ne_
    clear hne
    have hbx1 := hbx.touch hT hbfp
    have cE : cellsAt wc w.heap.size = E := cellsAt_blk hbx1
    have hE67 := LE.size
    have hEone := Lib.hid (show ∀ u ∈ E.toList, u.oneCell' = true from fun u hu => (Array.all_eq_true_iff_forall_mem.1 LE.one) u (by simpa using hu))
    have hELn := Lib.hid (show E.toList.length = 1 * 67 by simp [LE.size])
    obtain ⟨a1, cc1, rfl, hlc1, hcm1⟩ := hA1.2.slice
    have hneb : (Value.slice a1 l1.length cc1).ownBlock ≠ some w.heap.size := fun e => (hF _ (.inr e)).elim hbfp (fun e2 => by have := HZ.out; omega)
    have hrn : ¬ r = w.heap.size := fun e => hbfp (.inl e.symm)
    have hTs := hT.size
    have hown := Lib.hid (fun (W : World) (hW : W.heap = wc.heap) => (On.heap_eq hA1.2 hW).alloc (.cells E 182))
    have hrlt := hA1.1.lt
    go_wp2_with fail
    go_region_law
      ((refine step_append_on _ (by rfl) (.tmp 43) (.tmp 45) _ (by rfl) 182 i0 _ 67 536 Try.underlying204 hi0 hz0 hz1 hz2 rfl (by omega) (.slice a1 l1.length cc1) _ _ (by rfl) (by exact hown.out _ (by rfl)) _ 1 1 E.toList (by rfl) hELn.out (by exact src_new _ _ 1 E.toList) hEone.out (by simp only [maxLen]; omega) (by omega) ?_; intro v' w1 hown1 hg1 hat1; have hb1 := Blk.grown' hg1 (by exact hA1.1.alloc _) (by exact hne1); have k2 := hb1.cell 2; have kf := hb1.frozen 2; have hbx2 := Blk.grown' hg1 (by exact hbx1.alloc _) (by exact hneb); have k3 := cellsAt_blk hbx2; obtain ⟨a', c', rfl, hlc', hcm'⟩ := hown1.slice))
    all_goals
      go_wp2_with fail
      go_ret
      rw [hPL.out, ← hfirst.out]
      refine ⟨rfl, Turned.base ⟨.slice a' (l1.length + 1) c', ⟨hb1.set_ 2 _, ?_⟩, ?_, ?_⟩ hb0⟩
      · have := hown1.far (p := ⟨r, 2, none⟩) (hown1.blk_ne hb1 (by decide)) (.slice a' (l1.length + 1) c')
        rw [flat_snoc]
        rw [LE.eq] at this
        rw [List.length_append]
        exact this
      · refine Touch.setCell ?_ (.inl (.inl rfl)) _
        exact (hT.alloc (.cells E 182)).drew.grown hg1 (fun k hk => hF k (.inr hk))
      · exact fun k hk => hk.elim (fun e => .inl (.inl e)) (fun e => (own_le hat1 (n := W0.heap.size) (by simp; omega) k e).elim (fun e2 => hF k (.inr e2)) .inr)

set_option maxRecDepth 100000 in
set_option maxHeartbeats 1000000 in
theorem reset_any (w : World) (r : Nat) (room first n : Int) (sv : Value) (l : List NT) (h : At w r room first sv l) :
    Calls Try.prog 115 #[.pointer (some ⟨r, 0, none⟩), .int .i64 n] w fun e w' => e = .returned (.tuple #[]) ∧ Turned w r sv room n [] w' := by
  obtain ⟨⟨c0, c1, c2⟩, f0, f1, f2⟩ := h.cells
  obtain ⟨a, c, rfl, hlc, hcm⟩ := h.2.slice
  go_enter Try.func115, Try.ntmps115
  go_wp2
  go_end0
  refine ⟨rfl, .slice none 0 0, ⟨(h.1.set_ 1 _).set_ 2 _, On.nil _ _ _⟩, ((Touch.refl _ _).setCell (.inl (.inl rfl)) _).setCell (.inl (.inl rfl)) _, fun k hk => hk.elim (fun e => .inl (.inl e)) (fun e => by simp [Value.ownBlock] at e)⟩
end Go.Proofs.Ytckkpgopddnkiaa.RingE
namespace Go.Proofs.Ytckkpgopddnkiaa.RingE
open Go.RowKit Go.Sort Go.Proofs.Ytckkpgopddnkiaa.Gm
set_option linter.all false

theorem Turned.same {w w' : World} {r : Nat} {sv : Value} {room first : Int} {l : List NT} (h : At w r room first sv l) (hw : w'.heap = w.heap) (ht : Touch (fp r sv) w w') : Turned w r sv room first l w' :=
  ⟨sv, ⟨by unfold Blk; rw [hw]; exact h.1, h.2.of_heap fun g _ => by rw [hw]⟩, ht, fun _ hk => .inl hk⟩
theorem touch_same (S : Nat → Prop) (w : World) (n : Nat) : Touch S w (w.drewN n) := (Touch.refl S w).drewN n

def cutL (first : Int) (l : List NT) (n : Int) : List NT := if n < first + l.length then l.take (n - first).toNat else l

theorem cut_ok {w : World} {r n : Nat} {room first : Int} {l : List NT} {a : Option Addr} {c : Nat} (h : At w r room first (.slice a l.length c) l) {W : World} (hW : W.heap = w.heap) (hT : Touch (fp r (.slice a l.length c)) w W) (hn : n ≤ l.length) (hp : 0 < l.length) :
    Turned w r (.slice a l.length c) room first (l.take n) (W.setCell ⟨r, 2, none⟩ (.slice a n n)) := by
  have hne := h.ne_
  obtain ⟨a', c', hv, _, _, hs⟩ := h.slc
  cases hv
  obtain ⟨g, rfl, hgr, _⟩ := hs hp
  have hb := h.1.heap_eq hW
  have hlen : (l.take n).length = n := by simp [hn]
  have hcut := h.2.cut hn
  have hW2 : On W 182 67 (.slice (some ⟨g, 0, none⟩) n n) n ((flat cs l).take (n * 67)) := hcut.heap_eq hW
  refine ⟨.slice (some ⟨g, 0, none⟩) n n, ⟨hb.set_ 2 _, ?_⟩, hT.setCell (.inl (.inl rfl)) _, fun k hk => .inl hk⟩
  have := hW2.far (p := ⟨r, 2, none⟩) (by exact hne) (.slice (some ⟨g, 0, none⟩) n n)
  rw [hlen, ← flat_take cs_len]
  exact this

set_option maxRecDepth 100000 in
set_option maxHeartbeats 2000000 in
theorem cut_any (w : World) (r : Nat) (room first n : Int) (sv : Value) (l : List NT) (h : At w r room first sv l) (h0 : 0 ≤ first) (h1 : first + l.length ≤ 4611686018427387904) :
    Calls Try.prog 117 #[.pointer (some ⟨r, 0, none⟩), .int .i64 n] w fun e w' => e = .returned (.tuple #[]) ∧ Turned w r sv room first (cutL first l n) w' := by
  obtain ⟨⟨c0, c1, c2⟩, f0, f1, f2⟩ := h.cells
  have hp := Lib.hid (next_any w r room first sv l h h0 h1)
  obtain ⟨a, c, rfl, hlc, hcm⟩ := h.2.slice
  unfold maxLen at hcm
  by_cases b0 : n < first
  · by_cases hl : 0 < l.length
    · have hlt : first < first + (l.length : Int) := by omega
      have e4 := Lib.hid (show cutL first l n = l.take 0 by rw [cutL, if_pos (by omega)]; congr 1; omega)
      go_enter Try.func117, Try.ntmps117
      go_wp2_with fail
      refine hp.out.mono ?_
      rintro e w' ⟨rfl, nq, rfl⟩
      go_wp2_with fail
      go_region
      all_goals
        go_wp2_with fail
        refine bodyPost_end (results_none rfl _ _ _) rfl ⟨rfl, ?_⟩
        rw [e4.out]
        exact cut_ok h (by rfl) (touch_same _ _ _) (Nat.zero_le _) hl
    · have hlt : ¬ first < first + (l.length : Int) := by omega
      have e4 := Lib.hid (show cutL first l n = l by rw [cutL]; split <;> first | rfl | (rw [List.take_of_length_le (by omega)]))
      go_enter Try.func117, Try.ntmps117
      go_wp2_with fail
      refine hp.out.mono ?_
      rintro e w' ⟨rfl, nq, rfl⟩
      go_wp2_with fail
      refine bodyPost_end (results_none rfl _ _ _) rfl ⟨rfl, ?_⟩
      rw [e4.out]
      exact .same h rfl (touch_same _ _ _)
  · by_cases hl : n < first + (l.length : Int)
    · obtain ⟨j, hj⟩ : ∃ j : Nat, n - first = (j : Int) := ⟨(n - first).toNat, by omega⟩
      have hjl : j < l.length := by omega
      have e4 := Lib.hid (show cutL first l n = l.take j by rw [cutL, if_pos hl, hj, Int.toNat_natCast])
      have hj0 : (0 : Int) ≤ (j : Int) := by omega
      go_enter Try.func117, Try.ntmps117
      go_wp2_with fail
      refine hp.out.mono ?_
      rintro e w' ⟨rfl, nq, rfl⟩
      go_wp2_with fail
      go_region
      all_goals
        go_wp2_with fail
        refine bodyPost_end (results_none rfl _ _ _) rfl ⟨rfl, ?_⟩
        rw [e4.out]
        exact cut_ok h (by rfl) (touch_same _ _ _) (Nat.le_of_lt hjl) (by omega)
    · have e4 := Lib.hid (show cutL first l n = l by rw [cutL, if_neg hl])
      go_enter Try.func117, Try.ntmps117
      go_wp2_with fail
      refine hp.out.mono ?_
      rintro e w' ⟨rfl, nq, rfl⟩
      go_wp2_with fail
      refine bodyPost_end (results_none rfl _ _ _) rfl ⟨rfl, ?_⟩
      rw [e4.out]
      exact .same h rfl (touch_same _ _ _)

theorem touch_two {w W w1 : World} {r : Nat} {sv : Value} {row : Option Nat} (hT : Touch (fp r sv) w W) (hg : W.grownBy w1 row) (hr : ∀ k, row = some k → fp r sv k) (u1 u2 : Value) : Touch (fp r sv) w ((w1.setCell ⟨r, 2, none⟩ u1).setCell ⟨r, 1, none⟩ u2) :=
  ((hT.grown hg (fun k hk => Or.inl (hr k hk))).setCell (p := ⟨r, 2, none⟩) (Or.inl (Or.inl rfl)) _).setCell (p := ⟨r, 1, none⟩) (Or.inl (Or.inl rfl)) _

def dropF (first : Int) (len : Nat) (n : Int) : Int := if n ≤ first then first else first + min (n - first) len
def dropL (first : Int) (l : List NT) (n : Int) : List NT := if n ≤ first then l else l.drop (n - first).toNat

set_option maxRecDepth 100000 in
set_option maxHeartbeats 4000000 in
theorem drop_any (w : World) (r : Nat) (room first n : Int) (sv : Value) (l : List NT) (h : At w r room first sv l) (h0 : 0 ≤ first) (h1 : first + l.length ≤ 4611686018427387904) (hl : l.length ≤ 4096) (hn : n ≤ 9223372036854775807) :
    Calls Try.prog 136 #[.pointer (some ⟨r, 0, none⟩), .int .i64 n] w fun e w' => e = .returned (.tuple #[]) ∧ Turned w r sv room (dropF first l.length n) (dropL first l n) w' := by
  obtain ⟨⟨c0, c1, c2⟩, f0, f1, f2⟩ := h.cells
  by_cases b0 : n ≤ first
  · have e4 := Lib.hid (show dropL first l n = l by rw [dropL, if_pos b0])
    have e5 := Lib.hid (show dropF first l.length n = first by rw [dropF, if_pos b0])
    go_enter Try.func136, Try.ntmps136
    go_wp2_with fail
    refine bodyPost_ret (results_none rfl _ _ _) rfl ⟨rfl, ?_⟩
    rw [e4.out, e5.out]
    exact .same h rfl (touch_same _ _ 0)
  · obtain ⟨k, hk⟩ : ∃ k : Nat, min (n - first) (l.length : Int) = (k : Int) := ⟨(min (n - first) (l.length : Int)).toNat, by omega⟩
    have hkl : k ≤ l.length := by omega
    have e4 := Lib.hid (show dropL first l n = l.drop k by
      rw [dropL, if_neg b0]
      rcases Nat.le_total l.length (n - first).toNat with h2 | h2
      · rw [List.drop_eq_nil_of_le h2, List.drop_eq_nil_of_le (by omega)]
      · congr 1; omega)
    have e5 := Lib.hid (show dropF first l.length n = first + k by rw [dropF, if_neg b0, hk])
    have hk2 : (if (l.length : Int) < n - first then (l.length : Int) else n - first) = (k : Int) := by rw [← hk]; split <;> omega
    have hk0 : (0 : Int) ≤ (k : Int) := by omega
    have hkl2 : (k : Int) ≤ (l.length : Int) := by omega
    have hsum : first + (k : Int) ≤ 4611686018427387904 := by omega
    clear hk
    obtain ⟨i0, hi0, hz0, hz1, hz2⟩ := info_parts info
    obtain ⟨a, c, rfl, hlc, hcm⟩ := h.2.slice
    have hne := h.ne_
    go_enter Try.func136, Try.ntmps136
    go_wp2_with fail
    have hq1 : 0 + (l.length - k) ≤ maxLen := by simp only [maxLen]; omega
    have hq2 : (0 + (l.length - k)) * 536 ≤ 140737488355328 := by omega
    rcases h.2.form with ⟨hv, hl0, _⟩ | ⟨g, c', hv, _, hcm, _, _, _, _⟩
    · obtain rfl : l = [] := List.eq_nil_of_length_eq_zero hl0
      simp only [List.length_nil] at *
      cases hv
      obtain rfl : k = 0 := by omega
      have hown0 : On w 182 67 (.slice none 0 0) 0 [] := On.nil _ _ _
      have e6 := Lib.hid (show dropF first ([] : List NT).length n = first by have := e5.out; simpa using this)
      go_region
      go_wp2_with fail
      go_region_law (refine step_append_on _ (by rfl) (.tmp 28) (.tmp 34) _ (by rfl) 182 i0 _ 67 536 Try.underlying204 hi0 hz0 hz1 hz2 rfl (by omega) (.slice none 0 0) 0 [] (by rfl) (by exact hown0) none 0 0 [] (by rfl) (by rfl) (.inl ⟨rfl, rfl⟩) (fun _ hu => by cases hu) (by simp [maxLen]) (by omega) ?_; intro v' w1 hown1 hg1 hat1; obtain ⟨a', c', rfl, hlc', hcm'⟩ := hown1.slice; have hb1 := Blk.grown' hg1 (by exact h.1) (by exact hne); have k1 : w1.cell? ⟨r, 1, none⟩ = some (.int .i64 first) := hb1.cell 1; have k2 : w1.cell? ⟨r, 2, none⟩ = some (.slice none 0 0) := hb1.cell 2; have kf := hb1.frozen 2; have kf1 := hb1.frozen 1)
      all_goals
        go_wp2_with fail
        refine bodyPost_end (results_none rfl _ _ _) rfl ⟨rfl, ?_⟩
        rw [e4.out, e6.out]
        simp only [Nat.add_zero, List.append_nil] at hown1 hat1
        have hb3 := (hb1.set_ 2 (.slice a' 0 c')).set_ 1 (.int .i64 first)
        refine ⟨.slice a' 0 c', ⟨hb3, ?_⟩, touch_two (w := w) (W := w.drew.drew) (r := r) ⟨rfl, rfl, rfl, Nat.le_refl _, fun _ _ _ => rfl⟩ hg1 (fun k hk => by simp [Value.ownBlock] at hk) _ _, fun k hk => hk.elim (fun e => .inl (.inl e)) (fun e => (own_le hat1 (Nat.le_refl _) k e).imp .inr id)⟩
        exact (hown1.far (p := ⟨r, 2, none⟩) (hown1.blk_ne hb1 (by decide)) _).far (p := ⟨r, 1, none⟩) (hown1.blk_ne hb1 (by decide)) _
    · cases hv
      have hown0 : On w 182 67 (.slice (some ⟨g, 0, none⟩) 0 0) 0 [] := by simpa using h.2.cut (Nat.zero_le _)
      have hsrc := Lib.hid (src_drop_n h.2 k)
      have hdl := Lib.hid (show ((flat cs l).drop (k * 67)).length = (l.length - k) * 67 by rw [flat_drop cs_len, flat_len cs_len, List.length_drop])
      have hone := Lib.hid (show ∀ u ∈ (flat cs l).drop (k * 67), u.oneCell' = true from fun u hu => one_flat cs_one l u (List.mem_of_mem_drop hu))
      unfold maxLen at hcm
      have hkc : (k : Int) ≤ (c : Int) := by omega
      go_region
      go_wp2_with fail
      by_cases hc1 : c = k
      · subst hc1
        have hl1 := Lib.hid (show l.length = c by omega)
        go_region_law (refine step_append_on _ (by rfl) (.tmp 28) (.tmp 34) _ (by rfl) 182 i0 _ 67 536 Try.underlying204 hi0 hz0 hz1 hz2 rfl (by omega) (.slice (some ⟨g, 0, none⟩) 0 0) 0 [] (by rfl) (by exact hown0) (some ⟨g, 0, none⟩) 0 0 [] (by rfl) (by rfl) (.inl ⟨rfl, rfl⟩) (fun _ hu => by cases hu) (by simp [maxLen]) (by omega) ?_; intro v' w1 hown1 hg1 hat1; obtain ⟨a', c', rfl, hlc', hcm'⟩ := hown1.slice; have hb1 := Blk.grown' hg1 (by exact h.1) (by exact hne); have k1 : w1.cell? ⟨r, 1, none⟩ = some (.int .i64 first) := hb1.cell 1; have k2 : w1.cell? ⟨r, 2, none⟩ = some (.slice (some ⟨g, 0, none⟩) l.length c) := hb1.cell 2; have kf := hb1.frozen 2; have kf1 := hb1.frozen 1)
        all_goals
          go_wp2_with fail
          refine bodyPost_end (results_none rfl _ _ _) rfl ⟨rfl, ?_⟩
          rw [e4.out, e5.out]
          have hd : l.drop c = [] := List.eq_nil_of_length_eq_zero (by rw [List.length_drop, hl1.out, Nat.sub_self])
          simp only [Nat.add_zero, List.append_nil] at hown1 hat1
          exact shift_ok h (by rfl) hg1 ⟨rfl, rfl, rfl, Nat.le_refl _, fun _ _ _ => rfl⟩ (by rw [hd]; rfl) (by rw [flat_drop cs_len, hd]; exact hown1) hat1 _
      · have hkc2 : (k : Int) < (c : Int) := by omega
        go_region_law (refine step_append_on _ (by rfl) (.tmp 28) (.tmp 34) _ (by rfl) 182 i0 _ 67 536 Try.underlying204 hi0 hz0 hz1 hz2 rfl (by omega) (.slice (some ⟨g, 0, none⟩) 0 0) 0 [] (by rfl) (by exact hown0) (some ⟨g, k * 67, none⟩) (l.length - k) (c - k) ((flat cs l).drop (k * 67)) (by rfl) hdl.out (by exact hsrc.out) hone.out hq1 hq2 ?_; intro v' w1 hown1 hg1 hat1; obtain ⟨a', c', rfl, hlc', hcm'⟩ := hown1.slice; have hb1 := Blk.grown' hg1 (by exact h.1) (by exact hne); have k1 : w1.cell? ⟨r, 1, none⟩ = some (.int .i64 first) := hb1.cell 1; have k2 : w1.cell? ⟨r, 2, none⟩ = some (.slice (some ⟨g, 0, none⟩) l.length c) := hb1.cell 2; have kf := hb1.frozen 2; have kf1 := hb1.frozen 1)
        all_goals
          go_wp2_with fail
          refine bodyPost_end (results_none rfl _ _ _) rfl ⟨rfl, ?_⟩
          rw [e4.out, e5.out]
          simp only [Nat.zero_add, List.nil_append] at hown1 hat1
          exact shift_ok h (by rfl) hg1 ⟨rfl, rfl, rfl, Nat.le_refl _, fun _ _ _ => rfl⟩ (by simp) hown1 hat1 _
end Go.Proofs.Ytckkpgopddnkiaa.RingE
namespace Go.Proofs.Ytckkpgopddnkiaa.RingE
open Go.RowKit Go.Shelf Go.Proofs.Ytckkpgopddnkiaa.Gm
set_option linter.all false
/-- A load of an entry, shut: in a walk inside a fence the operation is opened to this. -/
def loadE (v : Value) : Sem Value := Instr.loadAt 182 v
theorem loadAt_E (v : Value) : Instr.loadAt 182 v = loadE v := rfl
def loadJ (w : World) (r : Result Value) : Option (List Value) → Result Value
  | some L => .ok (.agg L.toArray) w
  | none => r
theorem loadJ_none (w : World) (r : Result Value) : loadJ w r none = r := rfl
theorem loadJ_some (w : World) (r : Result Value) (L : List Value) : loadJ w r (some L) = .ok (.agg L.toArray) w := rfl
def loadE0 (P : Program) (v : Value) (w : World) : Result Value := Sem.run P (Instr.loadAt 182 v) w
theorem run_loadE (w : World) (g o : Nat) : Sem.run Try.prog (loadE (.pointer (some ⟨g, o, none⟩))) w = loadJ w (loadE0 Try.prog (.pointer (some ⟨g, o, none⟩)) w) (rowIn w g o 67) := by
  cases h : rowIn w g o 67 with
  | none => rw [loadJ_none]; unfold loadE0 loadE; exact Eq.refl _
  | some L =>
    obtain ⟨hr, hl⟩ := of_rowIn h
    rw [loadJ_some]
    unfold loadE
    exact run_loadAt_mid w g o 182 L _ hr Try.underlying182 rfl (by rw [hl]; exact infoE)
attribute [local go_sem] Oper.semAt_some
attribute [local go_sem ↓] loadAt_E
attribute [local go_sem] run_loadE loadJ_some rowIn_drew

/-- What has come when k rounds are over. -/
def upto {α : Type} (f : Nat → α) (k : Nat) : List α := (List.range k).map f
theorem upto_succ {α : Type} (f : Nat → α) (k : Nat) : upto f (k + 1) = upto f k ++ [f k] := by simp [upto, List.range_succ]
theorem upto_length {α : Type} (f : Nat → α) (k : Nat) : (upto f k).length = k := by simp [upto]
def encs (x : Int × NT) : Array Value := #[.int .i64 x.1, .agg (cs x.2).toArray]
def ntAt (l : List NT) (j : Nat) : NT := l.getD j none0
theorem ntAt_some {l : List NT} {j : Nat} (h : j < l.length) : l[j]? = some (ntAt l j) := by simp [ntAt, List.getD, h]
def backF (first : Int) (l : List NT) (j : Nat) : Int × NT := (first + ((l.length - 1 - j : Nat) : Int), ntAt l (l.length - 1 - j))

/-- These blocks are kept. -/
def KeepB (K : Nat → Prop) (A B : World) : Prop := ∀ k, K k → B.heap[k]? = A.heap[k]?
theorem keepB_t {K : Nat → Prop} {A B C : World} (h : KeepB K A B) (h' : KeepB K B C) : KeepB K A C := fun k hk => (h' k hk).trans (h k hk)
theorem keepB_b {K : Nat → Prop} {m : Nat} (hK : ∀ k, K k → k < m) (W : World) (l : Nat) (o o' : Obj) (hl : m ≤ l) (_ : W.heap[l]? = some o) (_ : o.isCells = false) (_ : o.isWalk = false) : KeepB K W (W.putObj l o') :=
  fun k hk => World.putObj_heap_other (by have := hK k hk; omega)
theorem keepB_refl {K : Nat → Prop} (A : World) : KeepB K A A := fun _ _ => rfl
theorem At.keep {K : Nat → Prop} {w w' : World} {r : Nat} {room first : Int} {sv : Value} {l : List NT} (h : At w r room first sv l) (hb : KeepB K w w') (hB : ∀ k, fp r sv k → K k) : At w' r room first sv l :=
  ⟨(hb r (hB r (.inl rfl))).trans h.1, h.2.of_heap fun g hg => hb g (hB g (.inr hg))⟩
theorem cell_keep {K : Nat → Prop} {w w' : World} {b o : Nat} {v : Value} (h : w.cell? ⟨b, o, none⟩ = some v) (hb : KeepB K w w') (hK : K b) : w'.cell? ⟨b, o, none⟩ = some v :=
  (World.cell?_of_block (w := w) (a := ⟨b, o, none⟩) (hb b hK)).trans h

set_option maxRecDepth 100000 in
set_option maxHeartbeats 1000000 in
theorem back_any (w : World) (r : Nat) :
    Calls Try.prog 156 #[.pointer (some ⟨r, 0, none⟩)] w fun e w' => e = .returned (.func (.func 164) #[] #[.pointer (some ⟨w.heap.size, 0, none⟩)]) ∧ w.alloc (.cells #[.pointer (some ⟨r, 0, none⟩)] 178) = w' := by
  have hmf : ∀ (fn : Fn) (first cap : Array Value) (w : World), (Instr.makeFunc fn first cap).run Try.prog w = .ok (.func fn first cap) w := fun _ _ _ _ => rfl
  go_enter Try.func156, Try.ntmps156
  go_wp2
  go_ret
  exact ⟨rfl, rfl⟩

def BackPost (K : Nat → Prop) (J Jx : List (Int × NT) → World → Prop) (xs : List (Int × NT)) (W1 : World) (b : Bool) (W' : World) : Prop := if b = true then J xs W' ∧ KeepB K W1 W' else Jx xs W'

set_option maxRecDepth 100000 in
set_option maxHeartbeats 4000000 in
theorem back1_in (n : Nat) (hn : 1 ≤ n) (lo Bx r : Nat) (K : Nat → Prop) (room first : Int) (sv : Value) (l : List NT) (J Jx : List (Int × NT) → World → Prop)
    (hY : ∀ pre x W1, J pre W1 → pre.length < l.length → YieldAt Fence.wide (n - 1) Try.prog lo (encs x) W1 fun e W' =>
      (e = .returned (.bool true) ∧ J (pre ++ [x]) W' ∧ KeepB K W1 W') ∨ (e = .returned (.bool false) ∧ Jx (pre ++ [x]) W'))
    (W : World) (hc : W.cell? ⟨Bx, 0, none⟩ = some (.pointer (some ⟨r, 0, none⟩))) (hA : At W r room first sv l) (hfp : ∀ k, fp r sv k → K k) (hBx : K Bx) (h0 : 0 ≤ first) (h1 : first + l.length ≤ 4611686018427387904) (hJ0 : J [] W)
    (hJd : ∀ xs W, J xs W → J xs W.drew) :
    CallsIn Fence.wide n Try.prog 164 #[.func (.yield lo) #[] #[], .pointer (some ⟨Bx, 0, none⟩)] W fun e W' => (∃ v, e = .returned v) ∧
      ((∃ ys, ys = upto (backF first l) l.length ∧ J ys W') ∨ (∃ pre, (∃ k, k ≤ l.length ∧ pre = upto (backF first l) k) ∧ Jx pre W')) := by
  obtain ⟨⟨c0, c1, c2⟩, f0, f1, f2⟩ := hA.cells
  obtain ⟨a, c, rfl, hlc, hcm, hsv⟩ := hA.slc
  unfold maxLen at hcm
  refine callsIn_of_wp Try.func164 rfl trivial ?_ rfl
  simp only [Try.ntmps164, List.size_toArray, List.length_cons, List.length_nil, Nat.reduceAdd, Nat.reduceSub, Array.replicate_succ, Array.replicate_zero, List.push_toArray, List.append_toArray, List.nil_append, List.cons_append]
  gi_wp2
  gi_loopw [3] (fun i wr => ∃ k : Nat, k ≤ l.length ∧ i = .int .i64 ((l.length : Int) - 1 - (k : Int)) ∧ J (upto (backF first l) k) wr ∧ KeepB K W wr) (fun i _ => (intOf i + 1).toNat)
  case atStart => exact ⟨0, Nat.zero_le _, by simp, hJ0, keepB_refl _⟩
  case round =>
    obtain ⟨k, hk, rfl, hJs, hkp⟩ := hrel
    have hA2 := hA.keep hkp hfp
    obtain ⟨⟨d0, d1, d2⟩, _⟩ := hA2.cells
    have hcb := cell_keep hc hkp hBx
    by_cases hlt : k < l.length
    · obtain ⟨g, rfl, hgr, hcs⟩ := hsv (by omega)
      obtain ⟨j, hj⟩ : ∃ j : Nat, l.length - 1 - k = j := ⟨_, rfl⟩
      have hjl : j < l.length := by omega
      have hcj : rowIn wr g (j * 67) 67 = some (cs (ntAt l j)) := rowIn_of (fun m v hm => cell_keep (hcs j _ (ntAt_some hjl) m v hm) hkp (hfp g (.inr rfl))) (cs_len _)
      have hi0 : (0 : Int) ≤ (j : Int) := by omega
      have hi1 : (j : Int) < (l.length : Int) := by omega
      have hs1 : first + (j : Int) ≤ 4611686018427387904 := by omega
      have hyk := hY _ (backF first l k) wr.drew (hJd _ _ hJs) (by rw [upto_length]; exact hlt)
      obtain ⟨fn, tmps, assign, body, hy, hR⟩ := hyk
      dsimp only [encs, backF] at hy
      rw [hj] at hy
      have ej : (l.length : Int) - 1 - (k : Int) = (j : Int) := by omega
      rw [ej]
      have EJ := Lib.hid ej
      have HJ := Lib.hid hj
      clear hsv hcs hJs hY hc c0 c1 c2 f0 f1 f2 ej hj
      have hw1 : IntKind.i64.wrap (first + (j : Int)) = first + (j : Int) := IntWalk.i64_in _ (by omega)
      have hR2 := Lib.hid (hR.mono (R' := fun e W' => ∃ b, e = .returned (.bool b) ∧ BackPost K J Jx (upto (backF first l) k ++ [backF first l k]) wr.drew b W') (fun e W' h => by
        rcases h with ⟨rfl, h⟩ | ⟨rfl, h⟩
        · exact ⟨true, rfl, by simp [BackPost]; exact h⟩
        · exact ⟨false, rfl, by simp [BackPost]; exact h⟩))
      have hmx : Try.prog.follows .mixedOrders = true := by kernel_rfl
      clear hR hfp hA hA2 hBx hgr
      gi_wp2
      gi_region_with_o (refine hR2.out.mono ?_; rintro e W3 ⟨b, rfl, hp⟩)
      all_goals
        clear hw1
        cases b
        · gi_wp2
          refine bodyPost_ret (results_none rfl _ _ _) rfl ?_
          exact ⟨⟨_, rfl⟩, .inr ⟨_, ⟨k + 1, by omega, (upto_succ _ _).symm⟩, by simpa [BackPost] using hp⟩⟩
        · have hp2 : J (upto (backF first l) k ++ [backF first l k]) W3 ∧ KeepB K wr.drew W3 := by simpa [BackPost] using hp
          gi_wp2
          go_roundw
          case rel => exact ⟨k + 1, by omega, by have := EJ.out; simp <;> (try omega), by rw [upto_succ]; exact hp2.1, keepB_t hkp (keepB_t (B := wr.drew) (fun _ _ => rfl) hp2.2)⟩
          case measure => have := EJ.out; simp [intOf] <;> (try omega)
    · obtain rfl : k = l.length := by omega
      clear hsv
      gi_wp2
      go_end0
      exact ⟨⟨_, rfl⟩, .inl ⟨_, rfl, hJs⟩⟩

theorem back_stops (n : Nat) (hn : 1 ≤ n) (Bx r : Nat) (K : Nat → Prop) (room first : Int) (sv : Value) (l : List NT) (w : World) (hK : ∀ k, K k → k < w.heap.size)
    (hc : w.cell? ⟨Bx, 0, none⟩ = some (.pointer (some ⟨r, 0, none⟩))) (hA : At w r room first sv l) (hfp : ∀ k, fp r sv k → K k) (hBx : K Bx) (h0 : 0 ≤ first) (h1 : first + l.length ≤ 4611686018427387904) :
    SeqStopsK Fence.wide n Try.prog 164 #[.pointer (some ⟨Bx, 0, none⟩)] encs (KeepB K) (fun ys => ys = upto (backF first l) l.length) (fun pre => ∃ k, k ≤ l.length ∧ pre = upto (backF first l) k) l.length w := fun lo J Jx W hW hJ _ hY hJ0 => by
  have hkb : KeepB K w W := fun k hk => hW.block k (hK k hk)
  exact back1_in n hn lo Bx r K room first sv l J Jx hY W (cell_keep hc hkb hBx) (hA.keep hkb hfp) hfp hBx h0 h1 hJ0
    (fun xs W2 h => hJ xs W2 _ none h ⟨rfl, rfl, rfl, Nat.le_refl _, fun _ _ _ => rfl⟩ (fun r e => by cases e))
end Go.Proofs.Ytckkpgopddnkiaa.RingE
