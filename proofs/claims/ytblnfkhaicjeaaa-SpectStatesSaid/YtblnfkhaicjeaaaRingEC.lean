/-
  Package ring at element type saved.entry: Put, Reset.
-/
import Derived.Test.YtblnfkhaicjeaaaRingEB
import Derived.Great.BuildSlice
namespace Go.Proofs.Ytblnfkhaicjeaaa.RingE
open Go.RowKit Go.Sort Go.Proofs.Ytblnfkhaicjeaaa.Gm
set_option linter.all false

theorem exec_ldE (ev : Operand → Value) (dst : Option Tmp) (x : Operand) (ty : TypeId) (pos : String) (after : Array Edge) (guard : Option (Nat × Bool)) (w : World) :
    (execOp ev { dst := dst, op := Op.load 149 x, type := ty, pos := pos, after := after, guard := guard }).run Try.prog w = loadR Try.prog 149 (ev x) w := exec_load ..
theorem loadRE_at (w : World) (g : Nat) (h : (cellsAt w g).size = 67) : loadR Try.prog 149 (.pointer (some ⟨g, 0, none⟩)) w = .ok (.value (.agg (cellsAt w g))) w := by
  obtain ⟨t, hg⟩ := cellsAt_inv (w := w) (g := g) (by omega)
  unfold loadR
  simp only [Instr.loadAt, Instr.sureAddr, Sem.run_bind, Sem.run_pure, Result.andThen_ok, run_loadVar_row w g t 149 (cellsAt w g) (0, 0) _ hg Try.underlying149 rfl (by rw [h]; exact infoE)]
def bsR (P : Program) (v : Value) (w : World) : Result Next := (Sem.run P (Instr.buildSlice 186 1 #[(0, v)]) w).andThen fun u w' => .ok (.value u) w'
theorem exec_bsE (ev : Operand → Value) (dst : Option Tmp) (x : Operand) (ty : TypeId) (pos : String) (after : Array Edge) (guard : Option (Nat × Bool)) (w : World) :
    (execOp ev { dst := dst, op := Op.buildSlice 186 1 #[(0, x)], type := ty, pos := pos, after := after, guard := guard }).run Try.prog w = bsR Try.prog (ev x) w := by
  unfold execOp bsR
  simp only [Sem.run_bind, Sem.run_pure, List.map_toArray, List.map_cons, List.map_nil]
theorem bsR_at (w : World) (E : Array Value) (h : E.size = 67) : bsR Try.prog (.agg E) w = .ok (.value (.slice (some ⟨w.heap.size, 0, none⟩) 1 1)) (w.alloc (.cells E 149)) := by
  obtain ⟨i0, hi0, hz0, hz1, hz2⟩ := info_parts info
  have hf := Great.fill_whole (s := 67) (by omega) [Value.agg E] ((Array.range (1 * i0.size)).map ((Value.agg Try.zeroCells149).cells[· % (Value.agg Try.zeroCells149).cells.size]!)) (fun v hv => by obtain rfl := List.mem_singleton.1 hv; exact h) (by simp [hz1])
  unfold bsR
  rw [run_buildSlice w 186 149 1 #[(0, .agg E)] E i0 _ Try.underlying186 hi0 hz0 (by rw [hz1]; omega) (by rw [hz1]; omega) (by
    rw [hz1] at hf ⊢
    refine hf.trans ?_
    simp [Value.cells])]
  rfl
attribute [local go_sem ↓] exec_ldE exec_bsE
attribute [local go_sem] loadRE_at bsR_at cellsAt_drew

/-- What a call leaves: a ring, in its own blocks or new ones; nothing else has turned. -/
def Turned (w : World) (r : Nat) (sv : Value) (room first : Int) (l : List NT) (w' : World) : Prop :=
  ∃ sv', At w' r room first sv' l ∧ Touch (fp r sv) w w' ∧ ∀ k, fp r sv' k → fp r sv k ∨ w.heap.size ≤ k

def putF (room first : Int) (l : List NT) : Int := if (l.length : Int) = room then first + 1 else first
def putL (room : Int) (l : List NT) (v : NT) : List NT := (if (l.length : Int) = room then l.drop 1 else l) ++ [v]

/-- The list's end, in new memory. -/
theorem shift_ok {w w1 W : World} {r g c k n : Nat} {room first : Int} {l : List NT} {a' : Option Addr} {c' : Nat} (h : At w r room first (.slice (some ⟨g, 0, none⟩) l.length c) l) (hW : W.heap = w.heap) (hg : W.grownBy w1 (Value.slice (some ⟨g, 0, none⟩) 0 0).ownBlock)
    (hT : Touch (fp r (.slice (some ⟨g, 0, none⟩) l.length c)) w W) (hn : n = (l.drop k).length)
    (hown : On w1 149 67 (.slice a' n c') n ((flat cs l).drop (k * 67))) (hat : (Value.slice a' n c').ownBlock = (Value.slice (some ⟨g, 0, none⟩) 0 0).ownBlock ∨ (Value.slice a' n c').ownBlock = some W.heap.size) (f' : Int) :
    Turned w r (.slice (some ⟨g, 0, none⟩) l.length c) room f' (l.drop k) ((w1.setCell ⟨r, 2, none⟩ (.slice a' n c')).setCell ⟨r, 1, none⟩ (.int .i64 f')) := by
  subst hn
  have hne := h.ne_
  have hb1 : Blk w1 r _ _ := Blk.grown' hg (by unfold Blk; rw [hW]; exact h.1) (by exact hne)
  have hb3 := (hb1.set_ 2 (.slice a' (l.drop k).length c')).set_ 1 (.int .i64 f')
  refine ⟨.slice a' (l.drop k).length c', ⟨hb3, ?_⟩, ?_, ?_⟩
  · have := (hown.far (p := ⟨r, 2, none⟩) (hown.blk_ne hb1 (by decide)) (.slice a' (l.drop k).length c')).far (p := ⟨r, 1, none⟩) (hown.blk_ne hb1 (by decide)) (.int .i64 f')
    rw [flat_drop cs_len] at this
    exact this
  · exact ((hT.grown hg (fun k hk => .inl (.inr hk))).setCell (.inl (.inl rfl)) _).setCell (.inl (.inl rfl)) _
  · exact fun k hk => hk.elim (fun e => .inl (.inl e)) (fun e => (own_le hat (by rw [hW]; exact Nat.le_refl _) k e).imp .inr id)

theorem Turned.base {w W w' : World} {r : Nat} {sv : Value} {room f : Int} {l : List NT} (h : Turned W r sv room f l w') (hb : Below w.heap.size w W) : Turned w r sv room f l w' := by
  obtain ⟨sv', hA, hT, hF⟩ := h
  exact ⟨sv', hA, (Touch.of_below (S := fp r sv) hb).trans hT (fun k hk => .inl hk), fun k hk => (hF k hk).imp id (fun e => Nat.le_trans hb.size e)⟩

set_option maxRecDepth 100000 in
set_option maxHeartbeats 4000000 in
theorem put_any (w : World) (r : Nat) (room first : Int) (x : NT) (E : Array Value) (LE : EL E x) (sv : Value) (l : List NT) (h : At w r room first sv l) (h0 : 0 ≤ first) (h1 : first + l.length ≤ 4611686018427387904) (hl : l.length ≤ 4096) (hroom : 0 < room) :
    Calls Try.prog 120 #[.pointer (some ⟨r, 0, none⟩), .agg E] w fun e w' => e = .returned (.int .i64 (first + l.length)) ∧ Turned w r sv room (putF room first l) (putL room l x) w' := by
  obtain ⟨i0, hi0, hz0, hz1, hz2⟩ := info_parts info
  have hb0 : Below w.heap.size w (w.alloc (.cells E 149)) := (Below.refl _ w).alloc (Nat.le_refl _) _
  have hbx : Blk (w.alloc (.cells E 149)) w.heap.size 149 E := Blk.new _ _ _
  have hlt0 := h.lt
  have hA := h.alloc (.cells E 149)
  obtain ⟨W0, hW0⟩ : ∃ W0, W0 = w.alloc (.cells E 149) := ⟨_, rfl⟩
  have hz : W0.heap.size = w.heap.size + 1 := by rw [hW0]; simp
  rw [← hW0] at hA hbx hb0
  have hbfp : ¬ fp r sv w.heap.size := fun e => by have := hlt0 _ e; omega
  clear h
  obtain ⟨⟨c0, c1, c2⟩, f0, f1, f2⟩ := hA.cells
  have hlt := hA.1.lt
  have hne := hA.ne_
  obtain ⟨a, c, rfl, hlc, hcm, hsv⟩ := hA.slc
  have hp := Lib.hid (next_any W0 r room first _ l hA h0 h1)
  have hsv' := Lib.hid hsv
  have HZ := Lib.hid hz
  clear hsv hz
  go_enter Try.func120, Try.ntmps120
  go_upto_region 1 with fail
  rw [← hW0]
  clear hW0
  go_wp2_with fail
  refine hp.out.mono ?_
  rintro e w' ⟨rfl, nq_1, rfl⟩
  go_wp2_with fail
  go_quiet (fail)
  go_upto_if 17 with fail
  go_cut [] (fun wx => Turned W0 r (.slice a l.length c) room (putF room first l) (if (l.length : Int) = room then l.drop 1 else l) wx)
  case first =>
    by_cases hr : ((l.length : Int) == room) = true
    · have hre : (l.length : Int) = room := by simpa using hr
      obtain ⟨g, rfl, hgr, hcell⟩ := hsv'.out (by omega)
      have hown0 : On W0 149 67 (.slice (some ⟨g, 0, none⟩) 0 0) 0 [] := by simpa using hA.2.cut (Nat.zero_le _)
      clear hcell
      unfold maxLen at hcm
      have hlp : (1 : Int) ≤ (l.length : Int) := by omega
      have hlp2 : (1 : Int) ≤ (c : Int) := by omega
      have hsrc := Lib.hid (src_drop_n hA.2 1)
      have hq1 : 0 + (l.length - 1) ≤ maxLen := by simp only [maxLen]; omega
      have hq2 : (0 + (l.length - 1)) * 536 ≤ 140737488355328 := by omega
      have hE := Lib.hid hre
      have hdl : ((flat cs l).drop (1 * 67)).length = (l.length - 1) * 67 := by rw [flat_drop cs_len, flat_len cs_len, List.length_drop]
      have hDL := Lib.hid hdl
      have hone : ∀ u ∈ (flat cs l).drop (1 * 67), u.oneCell' = true := fun u hu => one_flat cs_one l u (List.mem_of_mem_drop hu)
      have hONE := Lib.hid hone
      clear hre hdl hone
      by_cases hc1 : c = 1
      · subst hc1
        have hl1 := Lib.hid (show l.length = 1 by omega)
        go_wp2_with fail
        go_region_law (refine step_append_on _ (by rfl) (.tmp 23) (.tmp 28) _ (by rfl) 149 i0 _ 67 536 Try.underlying186 hi0 hz0 hz1 hz2 rfl (by omega) (.slice (some ⟨g, 0, none⟩) 0 0) 0 [] (by rfl) (by exact hown0) (some ⟨g, 0, none⟩) 0 0 [] (by rfl) (by rfl) (.inl ⟨rfl, rfl⟩) (fun _ hu => by cases hu) (by simp [maxLen]) (by omega) ?_; intro v' w1 hown1 hg1 hat1; obtain ⟨a', c', rfl, hlc', hcm'⟩ := hown1.slice; have hb1 := Blk.grown' hg1 (by exact hA.1) (by exact hne); have k1 : w1.cell? ⟨r, 1, none⟩ = some (.int .i64 first) := hb1.cell 1; have k2 : w1.cell? ⟨r, 2, none⟩ = some (.slice (some ⟨g, 0, none⟩) l.length 1) := hb1.cell 2; have kf := hb1.frozen 2; have kf1 := hb1.frozen 1)
        all_goals
          go_wp2_with fail
          go_meet
          have hd : l.drop 1 = [] := List.eq_nil_of_length_eq_zero (by rw [List.length_drop, hl1.out])
          simp only [Nat.add_zero, List.append_nil] at hown1 hat1
          rw [putF, if_pos hE.out, if_pos hE.out]
          exact shift_ok hA (by rfl) hg1 ⟨rfl, rfl, rfl, Nat.le_refl _, fun _ _ _ => rfl⟩ (by rw [hd]; rfl) (by rw [flat_drop cs_len, hd]; exact hown1) hat1 _
      · go_wp2_with fail
        go_region_law (refine step_append_on _ (by rfl) (.tmp 23) (.tmp 28) _ (by rfl) 149 i0 _ 67 536 Try.underlying186 hi0 hz0 hz1 hz2 rfl (by omega) (.slice (some ⟨g, 0, none⟩) 0 0) 0 [] (by rfl) (by exact hown0) (some ⟨g, 67, none⟩) (l.length - 1) (c - 1) ((flat cs l).drop (1 * 67)) (by rfl) (by exact hDL.out) (by exact hsrc.out) (by exact hONE.out) hq1 hq2 ?_; intro v' w1 hown1 hg1 hat1; obtain ⟨a', c', rfl, hlc', hcm'⟩ := hown1.slice; have hb1 := Blk.grown' hg1 (by exact hA.1) (by exact hne); have k1 : w1.cell? ⟨r, 1, none⟩ = some (.int .i64 first) := hb1.cell 1; have k2 : w1.cell? ⟨r, 2, none⟩ = some (.slice (some ⟨g, 0, none⟩) l.length c) := hb1.cell 2; have kf := hb1.frozen 2; have kf1 := hb1.frozen 1)
        all_goals
          go_wp2_with fail
          go_meet
          simp only [Nat.zero_add, List.nil_append] at hown1 hat1
          rw [putF, if_pos hE.out, if_pos hE.out]
          exact shift_ok hA (by rfl) hg1 ⟨rfl, rfl, rfl, Nat.le_refl _, fun _ _ _ => rfl⟩ (by simp) hown1 hat1 _
    · have hr2 : ((l.length : Int) == room) = false := by simpa using hr
      clear hr
      go_wp2_with fail
      go_meet
      have hne2 : ¬ (l.length : Int) = room := by simpa using hr2
      rw [putF, if_neg hne2, if_neg hne2]
      exact ⟨_, hA, ⟨rfl, rfl, rfl, Nat.le_refl _, fun _ _ _ => rfl⟩, fun k hk => .inl hk⟩
  case rest =>
    obtain ⟨sv1, hA1, hT, hF⟩ := hcut
    have hln : (if (l.length : Int) = room then l.drop 1 else l).length ≤ 4096 := by split <;> first | omega | (rw [List.length_drop]; omega)
    have hPL := Lib.hid (show putL room l x = (if (l.length : Int) = room then l.drop 1 else l) ++ [x] from rfl)
    generalize (if (l.length : Int) = room then l.drop 1 else l) = l1 at hA1 hln hPL
    obtain ⟨first1, hf1⟩ : ∃ x, x = putF room first l := ⟨_, rfl⟩
    rw [← hf1] at hA1
    have hfirst := Lib.hid hf1
    clear hf1
    obtain ⟨⟨d0, d1, d2⟩, e0, e1, e2⟩ := hA1.cells
    have hne1 := hA1.ne_
    clear hne
    have hbx1 := hbx.touch hT hbfp
    have cE : cellsAt wc w.heap.size = E := cellsAt_blk hbx1
    have hE67 := LE.size
    have hEone := Lib.hid (show ∀ u ∈ E.toList, u.oneCell' = true from fun u hu => (Array.all_eq_true_iff_forall_mem.1 LE.one) u (by simpa using hu))
    have hELn := Lib.hid (show E.toList.length = 1 * 67 by simp [LE.size])
    obtain ⟨a1, cc1, rfl, hlc1, hcm1⟩ := hA1.2.slice
    have hneb : (Value.slice a1 l1.length cc1).ownBlock ≠ some w.heap.size := fun e => (hF _ (.inr e)).elim hbfp (fun e2 => by have := HZ.out; omega)
    have hrn : ¬ r = w.heap.size := fun e => hbfp (.inl e.symm)
    have hTs := hT.size
    have hown := Lib.hid (fun (W : World) (hW : W.heap = wc.heap) => (On.heap_eq hA1.2 hW).alloc (.cells E 149))
    have hrlt := hA1.1.lt
    go_wp2_with fail
    go_region_law
      ((refine step_append_on _ (by rfl) (.tmp 43) (.tmp 45) _ (by rfl) 149 i0 _ 67 536 Try.underlying186 hi0 hz0 hz1 hz2 rfl (by omega) (.slice a1 l1.length cc1) _ _ (by rfl) (by exact hown.out _ (by rfl)) _ 1 1 E.toList (by rfl) hELn.out (by exact src_new _ _ 1 E.toList) hEone.out (by simp only [maxLen]; omega) (by omega) ?_; intro v' w1 hown1 hg1 hat1; have hb1 := Blk.grown' hg1 (by exact hA1.1.alloc _) (by exact hne1); have k2 := hb1.cell 2; have kf := hb1.frozen 2; have hbx2 := Blk.grown' hg1 (by exact hbx1.alloc _) (by exact hneb); have k3 := cellsAt_blk hbx2; obtain ⟨a', c', rfl, hlc', hcm'⟩ := hown1.slice))
    all_goals
      go_wp2_with fail
      go_ret
      rw [hPL.out, ← hfirst.out]
      refine ⟨rfl, Turned.base ⟨.slice a' (l1.length + 1) c', ⟨hb1.set_ 2 _, ?_⟩, ?_, ?_⟩ hb0⟩
      · have := hown1.far (p := ⟨r, 2, none⟩) (hown1.blk_ne hb1 (by decide)) (.slice a' (l1.length + 1) c')
        rw [flat_snoc]
        rw [LE.eq] at this
        rw [List.length_append]
        exact this
      · refine Touch.setCell ?_ (.inl (.inl rfl)) _
        exact (hT.alloc (.cells E 149)).drew.grown hg1 (fun k hk => hF k (.inr hk))
      · exact fun k hk => hk.elim (fun e => .inl (.inl e)) (fun e => (own_le hat1 (n := W0.heap.size) (by simp; omega) k e).elim (fun e2 => hF k (.inr e2)) .inr)

set_option maxRecDepth 100000 in
set_option maxHeartbeats 1000000 in
theorem reset_any (w : World) (r : Nat) (room first n : Int) (sv : Value) (l : List NT) (h : At w r room first sv l) :
    Calls Try.prog 117 #[.pointer (some ⟨r, 0, none⟩), .int .i64 n] w fun e w' => e = .returned (.tuple #[]) ∧ Turned w r sv room n [] w' := by
  obtain ⟨⟨c0, c1, c2⟩, f0, f1, f2⟩ := h.cells
  obtain ⟨a, c, rfl, hlc, hcm⟩ := h.2.slice
  go_enter Try.func117, Try.ntmps117
  go_wp2
  go_end0
  refine ⟨rfl, .slice none 0 0, ⟨(h.1.set_ 1 _).set_ 2 _, On.nil _ _ _⟩, ((Touch.refl _ _).setCell (.inl (.inl rfl)) _).setCell (.inl (.inl rfl)) _, fun k hk => hk.elim (fun e => .inl (.inl e)) (fun e => by simp [Value.ownBlock] at e)⟩
end Go.Proofs.Ytblnfkhaicjeaaa.RingE
