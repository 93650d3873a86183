/-
  The walks of package ring at element type backstay/tsync.note: what each method does to a ring in memory. Conditions: the ring lies whole in its block, its list at a block's head.
-/
import Derived.Test.YthdppaohagghbaaFlat
import Derived.Test.YthdppaohagghbaaProg
namespace Go.Proofs.Ythdppaohagghbaa.RingNote
open Go.RowKit
set_option linter.all false

abbrev NT := Int × Int
def cs (x : NT) : List Value := [.int .i64 x.1, .int .i64 x.2]
theorem cs_len : ∀ x, (cs x).length = 2 := fun _ => rfl
theorem cs_one : ∀ x, ∀ u ∈ cs x, u.oneCell' = true := by
  intro x u hu
  simp [cs] at hu
  rcases hu with rfl | rfl <;> rfl

theorem info : (Try.prog.info? 135).map (fun i => (i.zero, i.size, i.bytes)) = some (some (.agg #[.int .i64 0, .int .i64 0]), 2, 16) := by kernel_rfl

/-- A ring in memory: its block, and its list. -/
def At (w : World) (r : Nat) (room first : Int) (sv : Value) (l : List NT) : Prop :=
  Blk w r 198 #[.int .i64 room, .int .i64 first, sv] ∧ On w 135 2 sv l.length (flat cs l)
def fp (r : Nat) (sv : Value) : Nat → Prop := fun k => k = r ∨ sv.ownBlock = some k
section
variable {S : Nat → Prop} {w w' : World} {r : Nat} {room first : Int} {sv : Value} {l : List NT}
theorem At.lt (h : At w r room first sv l) : ∀ k, fp r sv k → k < w.heap.size := fun k hk => hk.elim (fun e => e ▸ h.1.lt) (fun e => h.2.lt k e)
theorem At.ne_ (h : At w r room first sv l) : sv.ownBlock ≠ some r := h.2.blk_ne h.1 (by decide)
theorem At.drewN (h : At w r room first sv l) (n : Nat) : At (w.drewN n) r room first sv l := h
theorem At.drew (h : At w r room first sv l) : At w.drew r room first sv l := h
theorem At.alloc (h : At w r room first sv l) (o : Obj) : At (w.alloc o) r room first sv l := ⟨h.1.alloc o, h.2.alloc o⟩
theorem At.heap_eq (h : At w r room first sv l) (hW : w'.heap = w.heap) : At w' r room first sv l := ⟨h.1.heap_eq hW, h.2.heap_eq hW⟩
theorem At.touch (h : At w r room first sv l) (ht : Touch S w w') (hS : ∀ k, fp r sv k → ¬ S k) : At w' r room first sv l := ⟨h.1.touch ht (hS r (.inl rfl)), h.2.touch ht fun g hg => hS g (.inr hg)⟩
theorem At.cells (h : At w r room first sv l) : (w.cell? ⟨r, 0, none⟩ = some (.int .i64 room) ∧ w.cell? ⟨r, 1, none⟩ = some (.int .i64 first) ∧ w.cell? ⟨r, 2, none⟩ = some sv) ∧
    (w.frozen? ⟨r, 0, none⟩ = false ∧ w.frozen? ⟨r, 1, none⟩ = false ∧ w.frozen? ⟨r, 2, none⟩ = false) :=
  ⟨⟨h.1.cell 0, h.1.cell 1, h.1.cell 2⟩, h.1.frozen 0, h.1.frozen 1, h.1.frozen 2⟩
theorem At.slc (h : At w r room first sv l) : ∃ a c, sv = .slice a l.length c ∧ l.length ≤ c ∧ c ≤ maxLen ∧ (0 < l.length → ∃ g, a = some ⟨g, 0, none⟩ ∧ g ≠ r ∧ ∀ j x, l[j]? = some x → w.cell? ⟨g, j * 2, none⟩ = some (.int .i64 x.1) ∧ w.cell? ⟨g, j * 2 + 1, none⟩ = some (.int .i64 x.2)) := by
  have hne := h.ne_
  rcases h.2.form with ⟨rfl, h0, _⟩ | ⟨g, cap, hv, hnc, hcm, hown, hlt, hc, hf⟩
  · exact ⟨none, 0, by rw [h0], by omega, by simp [maxLen], fun hp => by omega⟩
  · refine ⟨_, cap, hv, hnc, hcm, fun _ => ⟨g, rfl, fun e => hne (by rw [hown, e]), fun j x hx => ⟨?_, ?_⟩⟩⟩
    · exact hc (j * 2 + 0) _ (by rw [flat_get cs_len l hx (by omega)]; rfl)
    · exact hc (j * 2 + 1) _ (by rw [flat_get cs_len l hx (by omega)]; rfl)
end

set_option maxHeartbeats 400000 in
theorem len_any (w : World) (r : Nat) (room first : Int) (sv : Value) (l : List NT) (h : At w r room first sv l) :
    Calls Try.prog 91 #[.pointer (some ⟨r, 0, none⟩)] w fun e w' => e = .returned (.int .i64 l.length) ∧ w = w' := by
  obtain ⟨⟨c0, c1, c2⟩, f0, f1, f2⟩ := h.cells
  obtain ⟨a, c, rfl, hlc, hcm, hsv⟩ := h.slc
  go_enter Try.func91, Try.ntmps91
  go_wp2
  go_ret
  exact ⟨rfl, rfl⟩

set_option maxHeartbeats 400000 in
theorem next_any (w : World) (r : Nat) (room first : Int) (sv : Value) (l : List NT) (h : At w r room first sv l) (h0 : 0 ≤ first) (h1 : first + l.length ≤ 4611686018427387904) :
    Calls Try.prog 140 #[.pointer (some ⟨r, 0, none⟩)] w fun e w' => e = .returned (.int .i64 (first + l.length)) ∧ ∃ n, w' = w.drewN n := by
  obtain ⟨⟨c0, c1, c2⟩, f0, f1, f2⟩ := h.cells
  obtain ⟨a, c, rfl, hlc, hcm, hsv⟩ := h.slc
  go_enter Try.func140, Try.ntmps140
  go_wp2
  go_quiet (fail)
  go_wp2
  go_ret
  exact ⟨rfl, nq, rfl⟩

set_option maxHeartbeats 400000 in
theorem new_ok (n : Int) (w : World) (h : 1 ≤ n) (h2 : n ≤ 4096) :
    Calls Try.prog 86 #[.int .i64 n] w fun e w' => e = .returned (.tuple #[.pointer (some ⟨w.heap.size, 0, none⟩), .int .i64 0]) ∧ w.alloc (.cells #[.int .i64 n, .int .i64 0, .slice none 0 0] 198) = w' := by
  go_enter Try.func86, Try.ntmps86
  go_wp2
  go_ret2
  exact ⟨rfl, rfl⟩

theorem at_new (w : World) (n : Int) : At (w.alloc (.cells #[.int .i64 n, .int .i64 0, .slice none 0 0] 198)) w.heap.size n 0 (.slice none 0 0) [] := ⟨Blk.new _ _ _, On.nil _ _ _⟩

set_option maxHeartbeats 400000 in
theorem new_no (n : Int) (w : World) (h : n < 1 ∨ 4096 < n) :
    Calls Try.prog 86 #[.int .i64 n] w fun e w' => e = .returned (.tuple #[.pointer none, .int .i64 1]) ∧ w = w' := by
  rcases h with h | h
  · go_enter Try.func86, Try.ntmps86
    go_wp2
    go_ret2
    exact ⟨rfl, rfl⟩
  · have h' : ¬ n < 1 := by omega
    go_enter Try.func86, Try.ntmps86
    go_wp2
    go_ret2
    exact ⟨rfl, rfl⟩

/-- What a call leaves: a ring, in its own blocks or new ones; nothing else has turned. -/
def Turned (w : World) (r : Nat) (sv : Value) (room first : Int) (l : List NT) (w' : World) : Prop :=
  ∃ sv', At w' r room first sv' l ∧ Touch (fp r sv) w w' ∧ ∀ k, fp r sv' k → fp r sv k ∨ w.heap.size ≤ k

def putF (room first : Int) (l : List NT) : Int := if (l.length : Int) = room then first + 1 else first
def putL (room : Int) (l : List NT) (v : NT) : List NT := (if (l.length : Int) = room then l.drop 1 else l) ++ [v]

/-- The list's end, in new memory. -/
theorem shift_ok {w w1 W : World} {r g c k n : Nat} {room first : Int} {l : List NT} {a' : Option Addr} {c' : Nat} (h : At w r room first (.slice (some ⟨g, 0, none⟩) l.length c) l) (hW : W.heap = w.heap) (hg : W.grownBy w1 (Value.slice (some ⟨g, 0, none⟩) 0 0).ownBlock)
    (hT : Touch (fp r (.slice (some ⟨g, 0, none⟩) l.length c)) w W) (hn : n = (l.drop k).length)
    (hown : On w1 135 2 (.slice a' n c') n ((flat cs l).drop (k * 2))) (hat : (Value.slice a' n c').ownBlock = (Value.slice (some ⟨g, 0, none⟩) 0 0).ownBlock ∨ (Value.slice a' n c').ownBlock = some W.heap.size) (f' : Int) :
    Turned w r (.slice (some ⟨g, 0, none⟩) l.length c) room f' (l.drop k) ((w1.setCell ⟨r, 2, none⟩ (.slice a' n c')).setCell ⟨r, 1, none⟩ (.int .i64 f')) := by
  subst hn
  have hne := h.ne_
  have hb1 : Blk w1 r _ _ := Blk.grown' hg (by unfold Blk; rw [hW]; exact h.1) (by exact hne)
  have hb3 := (hb1.set_ 2 (.slice a' (l.drop k).length c')).set_ 1 (.int .i64 f')
  refine ⟨.slice a' (l.drop k).length c', ⟨hb3, ?_⟩, ?_, ?_⟩
  · have := (hown.far (p := ⟨r, 2, none⟩) (hown.blk_ne hb1 (by decide)) (.slice a' (l.drop k).length c')).far (p := ⟨r, 1, none⟩) (hown.blk_ne hb1 (by decide)) (.int .i64 f')
    rw [flat_drop cs_len] at this
    exact this
  · exact ((hT.grown hg (fun k hk => .inl (.inr hk))).setCell (.inl (.inl rfl)) _).setCell (.inl (.inl rfl)) _
  · exact fun k hk => hk.elim (fun e => .inl (.inl e)) (fun e => (own_le hat (by rw [hW]; exact Nat.le_refl _) k e).imp .inr id)

theorem Turned.base {w W w' : World} {r : Nat} {sv : Value} {room f : Int} {l : List NT} (h : Turned W r sv room f l w') (hb : Below w.heap.size w W) : Turned w r sv room f l w' := by
  obtain ⟨sv', hA, hT, hF⟩ := h
  exact ⟨sv', hA, (Touch.of_below (S := fp r sv) hb).trans hT (fun k hk => .inl hk), fun k hk => (hF k hk).imp id (fun e => Nat.le_trans hb.size e)⟩

set_option maxRecDepth 100000 in
set_option maxHeartbeats 4000000 in
theorem put_any (w : World) (r : Nat) (room first : Int) (va vb : Int) (sv : Value) (l : List NT) (h : At w r room first sv l) (h0 : 0 ≤ first) (h1 : first + l.length ≤ 4611686018427387904) (hl : l.length ≤ 4096) (hroom : 0 < room) :
    Calls Try.prog 87 #[.pointer (some ⟨r, 0, none⟩), .agg #[.int .i64 va, .int .i64 vb]] w fun e w' => e = .returned (.int .i64 (first + l.length)) ∧ Turned w r sv room (putF room first l) (putL room l (va, vb)) w' := by
  obtain ⟨i0, hi0, hz0, hz1, hz2⟩ := info_parts info
  have hb0 : Below w.heap.size w (w.alloc (.cells #[.int .i64 va, .int .i64 vb] 135)) := (Below.refl _ w).alloc (Nat.le_refl _) _
  have hbx : Blk (w.alloc (.cells #[.int .i64 va, .int .i64 vb] 135)) w.heap.size 135 #[.int .i64 va, .int .i64 vb] := Blk.new _ _ _
  have hlt0 := h.lt
  have hA := h.alloc (.cells #[.int .i64 va, .int .i64 vb] 135)
  obtain ⟨W0, hW0⟩ : ∃ W0, W0 = w.alloc (.cells #[.int .i64 va, .int .i64 vb] 135) := ⟨_, rfl⟩
  have hz : W0.heap.size = w.heap.size + 1 := by rw [hW0]; simp
  rw [← hW0] at hA hbx hb0
  have hbfp : ¬ fp r sv w.heap.size := fun e => by have := hlt0 _ e; omega
  clear h
  obtain ⟨⟨c0, c1, c2⟩, f0, f1, f2⟩ := hA.cells
  have hlt := hA.1.lt
  have hne := hA.ne_
  obtain ⟨a, c, rfl, hlc, hcm, hsv⟩ := hA.slc
  have hp := Lib.hid (next_any W0 r room first _ l hA h0 h1)
  have hsv' := Lib.hid hsv
  have HZ := Lib.hid hz
  clear hsv hz
  go_enter Try.func87, Try.ntmps87
  go_upto_region 1 with fail
  rw [← hW0]
  clear hW0
  go_wp2_with fail
  refine hp.out.mono ?_
  rintro e w' ⟨rfl, nq_1, rfl⟩
  go_wp2_with fail
  go_quiet (fail)
  go_upto_if 17 with fail
  go_cut [] (fun wx => Turned W0 r (.slice a l.length c) room (putF room first l) (if (l.length : Int) = room then l.drop 1 else l) wx)
  case first =>
    by_cases hr : ((l.length : Int) == room) = true
    · have hre : (l.length : Int) = room := by simpa using hr
      obtain ⟨g, rfl, hgr, hcell⟩ := hsv'.out (by omega)
      have hown0 : On W0 135 2 (.slice (some ⟨g, 0, none⟩) 0 0) 0 [] := by simpa using hA.2.cut (Nat.zero_le _)
      clear hcell
      unfold maxLen at hcm
      have hlp : (1 : Int) ≤ (l.length : Int) := by omega
      have hlp2 : (1 : Int) ≤ (c : Int) := by omega
      have hsrc := Lib.hid (src_drop_n hA.2 1)
      have hq1 : 0 + (l.length - 1) ≤ maxLen := by simp only [maxLen]; omega
      have hq2 : (0 + (l.length - 1)) * 16 ≤ 140737488355328 := by omega
      have hE := Lib.hid hre
      have hdl : ((flat cs l).drop (1 * 2)).length = (l.length - 1) * 2 := by rw [flat_drop cs_len, flat_len cs_len, List.length_drop]
      have hDL := Lib.hid hdl
      have hone : ∀ u ∈ (flat cs l).drop (1 * 2), u.oneCell' = true := fun u hu => one_flat cs_one l u (List.mem_of_mem_drop hu)
      have hONE := Lib.hid hone
      clear hre hdl hone
      by_cases hc1 : c = 1
      · subst hc1
        have hl1 := Lib.hid (show l.length = 1 by omega)
        go_wp2_with fail
        go_region_law (refine step_append_on _ (by rfl) (.tmp 23) (.tmp 28) _ (by rfl) 135 i0 _ 2 16 Try.underlying196 hi0 hz0 hz1 hz2 rfl (by omega) (.slice (some ⟨g, 0, none⟩) 0 0) 0 [] (by rfl) (by exact hown0) (some ⟨g, 0, none⟩) 0 0 [] (by rfl) (by rfl) (.inl ⟨rfl, rfl⟩) (fun _ hu => by cases hu) (by simp [maxLen]) (by omega) ?_; intro v' w1 hown1 hg1 hat1; obtain ⟨a', c', rfl, hlc', hcm'⟩ := hown1.slice; have hb1 := Blk.grown' hg1 (by exact hA.1) (by exact hne); have k1 : w1.cell? ⟨r, 1, none⟩ = some (.int .i64 first) := hb1.cell 1; have k2 : w1.cell? ⟨r, 2, none⟩ = some (.slice (some ⟨g, 0, none⟩) l.length 1) := hb1.cell 2; have kf := hb1.frozen 2; have kf1 := hb1.frozen 1)
        all_goals
          go_wp2_with fail
          go_meet
          have hd : l.drop 1 = [] := List.eq_nil_of_length_eq_zero (by rw [List.length_drop, hl1.out])
          simp only [Nat.add_zero, List.append_nil] at hown1 hat1
          rw [putF, if_pos hE.out, if_pos hE.out]
          exact shift_ok hA (by rfl) hg1 ⟨rfl, rfl, rfl, Nat.le_refl _, fun _ _ _ => rfl⟩ (by rw [hd]; rfl) (by rw [flat_drop cs_len, hd]; exact hown1) hat1 _
      · go_wp2_with fail
        go_region_law (refine step_append_on _ (by rfl) (.tmp 23) (.tmp 28) _ (by rfl) 135 i0 _ 2 16 Try.underlying196 hi0 hz0 hz1 hz2 rfl (by omega) (.slice (some ⟨g, 0, none⟩) 0 0) 0 [] (by rfl) (by exact hown0) (some ⟨g, 2, none⟩) (l.length - 1) (c - 1) ((flat cs l).drop (1 * 2)) (by rfl) (by exact hDL.out) (by exact hsrc.out) (by exact hONE.out) hq1 hq2 ?_; intro v' w1 hown1 hg1 hat1; obtain ⟨a', c', rfl, hlc', hcm'⟩ := hown1.slice; have hb1 := Blk.grown' hg1 (by exact hA.1) (by exact hne); have k1 : w1.cell? ⟨r, 1, none⟩ = some (.int .i64 first) := hb1.cell 1; have k2 : w1.cell? ⟨r, 2, none⟩ = some (.slice (some ⟨g, 0, none⟩) l.length c) := hb1.cell 2; have kf := hb1.frozen 2; have kf1 := hb1.frozen 1)
        all_goals
          go_wp2_with fail
          go_meet
          simp only [Nat.zero_add, List.nil_append] at hown1 hat1
          rw [putF, if_pos hE.out, if_pos hE.out]
          exact shift_ok hA (by rfl) hg1 ⟨rfl, rfl, rfl, Nat.le_refl _, fun _ _ _ => rfl⟩ (by simp) hown1 hat1 _
    · have hr2 : ((l.length : Int) == room) = false := by simpa using hr
      clear hr
      go_wp2_with fail
      go_meet
      have hne2 : ¬ (l.length : Int) = room := by simpa using hr2
      rw [putF, if_neg hne2, if_neg hne2]
      exact ⟨_, hA, ⟨rfl, rfl, rfl, Nat.le_refl _, fun _ _ _ => rfl⟩, fun k hk => .inl hk⟩
  case rest =>
    obtain ⟨sv1, hA1, hT, hF⟩ := hcut
    have hln : (if (l.length : Int) = room then l.drop 1 else l).length ≤ 4096 := by split <;> first | omega | (rw [List.length_drop]; omega)
    have hPL := Lib.hid (show putL room l (va, vb) = (if (l.length : Int) = room then l.drop 1 else l) ++ [(va, vb)] from rfl)
    generalize (if (l.length : Int) = room then l.drop 1 else l) = l1 at hA1 hln hPL
    obtain ⟨first1, hf1⟩ : ∃ x, x = putF room first l := ⟨_, rfl⟩
    rw [← hf1] at hA1
    have hfirst := Lib.hid hf1
    clear hf1
    obtain ⟨⟨d0, d1, d2⟩, e0, e1, e2⟩ := hA1.cells
    have hne1 := hA1.ne_
    clear hne
    have hbx1 := hbx.touch hT hbfp
    have b0 := hbx1.cell 0
    have b1 := hbx1.cell 1
    obtain ⟨a1, cc1, rfl, hlc1, hcm1⟩ := hA1.2.slice
    have hneb : (Value.slice a1 l1.length cc1).ownBlock ≠ some w.heap.size := fun e => (hF _ (.inr e)).elim hbfp (fun e2 => by have := HZ.out; omega)
    have hrn : ¬ r = w.heap.size := fun e => hbfp (.inl e.symm)
    have hTs := hT.size
    have hown := Lib.hid (fun (W : World) (hW : W.heap = wc.heap) => (On.heap_eq hA1.2 hW).alloc (.cells #[.int .i64 va, .int .i64 vb] 135))
    have hrlt := hA1.1.lt
    go_wp2_with fail
    go_region_law
      ((refine step_append_on _ (by rfl) (.tmp 43) (.tmp 45) _ (by rfl) 135 i0 _ 2 16 Try.underlying196 hi0 hz0 hz1 hz2 rfl (by omega) (.slice a1 l1.length cc1) _ _ (by rfl) (by exact hown.out _ (by rfl)) _ 1 1 [.int .i64 va, .int .i64 vb] (by rfl) (by rfl) (by exact src_new _ _ 1 [.int .i64 va, .int .i64 vb]) (by simp [Value.oneCell']) (by simp only [maxLen]; omega) (by omega) ?_; intro v' w1 hown1 hg1 hat1; have hb1 := Blk.grown' hg1 (by exact hA1.1.alloc _) (by exact hne1); have k2 := hb1.cell 2; have kf := hb1.frozen 2; have hbx2 := Blk.grown' hg1 (by exact hbx1.alloc _) (by exact hneb); have k3 := hbx2.cell 0; have k4 := hbx2.cell 1; obtain ⟨a', c', rfl, hlc', hcm'⟩ := hown1.slice))
    all_goals
      go_wp2_with fail
      go_ret
      rw [hPL.out, ← hfirst.out]
      refine ⟨rfl, Turned.base ⟨.slice a' (l1.length + 1) c', ⟨hb1.set_ 2 _, ?_⟩, ?_, ?_⟩ hb0⟩
      · have := hown1.far (p := ⟨r, 2, none⟩) (hown1.blk_ne hb1 (by decide)) (.slice a' (l1.length + 1) c')
        rw [flat_snoc]
        simpa [cs] using this
      · refine Touch.setCell ?_ (.inl (.inl rfl)) _
        exact (hT.alloc (.cells #[.int .i64 va, .int .i64 vb] 135)).drew.grown hg1 (fun k hk => hF k (.inr hk))
      · exact fun k hk => hk.elim (fun e => .inl (.inl e)) (fun e => (own_le hat1 (n := W0.heap.size) (by simp; omega) k e).elim (fun e2 => hF k (.inr e2)) .inr)

set_option maxRecDepth 100000 in
set_option maxHeartbeats 1000000 in
theorem reset_any (w : World) (r : Nat) (room first n : Int) (sv : Value) (l : List NT) (h : At w r room first sv l) :
    Calls Try.prog 95 #[.pointer (some ⟨r, 0, none⟩), .int .i64 n] w fun e w' => e = .returned (.tuple #[]) ∧ Turned w r sv room n [] w' := by
  obtain ⟨⟨c0, c1, c2⟩, f0, f1, f2⟩ := h.cells
  obtain ⟨a, c, rfl, hlc, hcm⟩ := h.2.slice
  go_enter Try.func95, Try.ntmps95
  go_wp2
  go_end0
  refine ⟨rfl, .slice none 0 0, ⟨(h.1.set_ 1 _).set_ 2 _, On.nil _ _ _⟩, ((Touch.refl _ _).setCell (.inl (.inl rfl)) _).setCell (.inl (.inl rfl)) _, fun k hk => hk.elim (fun e => .inl (.inl e)) (fun e => by simp [Value.ownBlock] at e)⟩


end Go.Proofs.Ythdppaohagghbaa.RingNote
