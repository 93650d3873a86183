/-
  The walks of package ring at element type int64, the methods that write: Put, Set, Drop, Cut, Reset, New, Clone. Conditions as in the text before.
-/
import Derived.Test.YtmceaffoffemlaaRingI64
namespace Go.Proofs.Ytmceaffoffemlaa.RingI64
open Go.RowKit

/-- What a call leaves: a ring, in its own blocks or new ones; nothing else has turned. -/
def Turned (w : World) (r : Nat) (sv : Value) (room first : Int) (l : List Int) (w' : World) : Prop :=
  ∃ sv', At w' r room first sv' l ∧ Touch (fp r sv) w w' ∧ ∀ k, fp r sv' k → fp r sv k ∨ w.heap.size ≤ k

def putF (room first : Int) (l : List Int) : Int := if (l.length : Int) = room then first + 1 else first
def putL (room : Int) (l : List Int) (v : Int) : List Int := (if (l.length : Int) = room then l.drop 1 else l) ++ [v]

/-- The list's end, in new memory. -/
theorem shift_ok {w w1 W : World} {r g c k n : Nat} {room first : Int} {l : List Int} {a' : Option Addr} {c' : Nat} (h : At w r room first (.slice (some ⟨g, 0, none⟩) l.length c) l) (hW : W.heap = w.heap) (hg : W.grownBy w1 (Value.slice (some ⟨g, 0, none⟩) 0 0).ownBlock)
    (hT : Touch (fp r (.slice (some ⟨g, 0, none⟩) l.length c)) w W) (hn : n = (l.drop k).length)
    (hown : On w1 2 1 (.slice a' n c') n ((l.map (Value.int .i64)).drop k)) (hat : (Value.slice a' n c').ownBlock = (Value.slice (some ⟨g, 0, none⟩) 0 0).ownBlock ∨ (Value.slice a' n c').ownBlock = some W.heap.size) (f' : Int) :
    Turned w r (.slice (some ⟨g, 0, none⟩) l.length c) room f' (l.drop k) ((w1.setCell ⟨r, 2, none⟩ (.slice a' n c')).setCell ⟨r, 1, none⟩ (.int .i64 f')) := by
  subst hn
  have hne := h.ne_
  have hb1 : Blk w1 r _ _ := Blk.grown' hg (by unfold Blk; rw [hW]; exact h.1) (by exact hne)
  have hb3 := (hb1.set_ 2 (.slice a' (l.drop k).length c')).set_ 1 (.int .i64 f')
  refine ⟨.slice a' (l.drop k).length c', ⟨hb3, ?_⟩, ?_, ?_⟩
  · have := (hown.far (p := ⟨r, 2, none⟩) (hown.blk_ne hb1 (by decide)) (.slice a' (l.drop k).length c')).far (p := ⟨r, 1, none⟩) (hown.blk_ne hb1 (by decide)) (.int .i64 f')
    rw [← List.map_drop] at this
    exact this
  · exact ((hT.grown hg (fun k hk => .inl (.inr hk))).setCell (.inl (.inl rfl)) _).setCell (.inl (.inl rfl)) _
  · exact fun k hk => hk.elim (fun e => .inl (.inl e)) (fun e => (own_le hat (by rw [hW]; exact Nat.le_refl _) k e).imp .inr id)

set_option maxRecDepth 100000 in
set_option maxHeartbeats 2000000 in
theorem put_any (w : World) (r : Nat) (room first v : Int) (sv : Value) (l : List Int) (h : At w r room first sv l) (h0 : 0 ≤ first) (h1 : first + l.length ≤ 4611686018427387904) (hl : l.length ≤ 4096) (hroom : 0 < room) :
    Calls Try.prog 72 #[.pointer (some ⟨r, 0, none⟩), .int .i64 v] w fun e w' => e = .returned (.int .i64 (first + l.length)) ∧ Turned w r sv room (putF room first l) (putL room l v) w' := by
  obtain ⟨⟨c0, c1, c2⟩, f0, f1, f2⟩ := h.cells
  have hlt := h.1.lt
  have hne := h.ne_
  obtain ⟨a, c, rfl, hlc, hcm, hsv⟩ := h.slc
  obtain ⟨i0, hi0, hz0, hz1, hz2⟩ := info_parts info
  have hp := Lib.hid (next_any w r room first _ l h h0 h1)
  have hsv' := Lib.hid hsv
  clear hsv
  go_enter Try.func72, Try.ntmps72
  go_wp2_with fail
  refine hp.out.mono ?_
  rintro e w' ⟨rfl, nq_1, rfl⟩
  go_wp2_with fail
  go_quiet (fail)
  go_upto_if 17 with fail
  go_cut [] (fun wx => Turned w r (.slice a l.length c) room (putF room first l) (if (l.length : Int) = room then l.drop 1 else l) wx)
  case first =>
    by_cases hr : ((l.length : Int) == room) = true
    · have hre : (l.length : Int) = room := by simpa using hr
      obtain ⟨g, rfl, hgr, hcell⟩ := hsv'.out (by omega)
      have hown0 : On w 2 1 (.slice (some ⟨g, 0, none⟩) 0 0) 0 [] := by simpa using h.2.cut (Nat.zero_le _)
      clear hcell
      unfold maxLen at hcm
      have hlp : (1 : Int) ≤ (l.length : Int) := by omega
      have hlp2 : (1 : Int) ≤ (c : Int) := by omega
      have hsrc := Lib.hid (src_drop h.2 1)
      have hq1 : 0 + (l.length - 1) ≤ maxLen := by simp only [maxLen]; omega
      have hq2 : (0 + (l.length - 1)) * 8 ≤ 140737488355328 := by omega
      have hE := Lib.hid hre
      clear hre
      by_cases hc1 : c = 1
      · subst hc1
        have hl1 := Lib.hid (show l.length = 1 by omega)
        go_wp2_with fail
        go_region_law (refine step_append_on _ (by rfl) (.tmp 23) (.tmp 28) _ (by rfl) 2 i0 _ 1 8 Try.underlying56 hi0 hz0 hz1 hz2 rfl (by omega) (.slice (some ⟨g, 0, none⟩) 0 0) 0 [] (by rfl) (by exact hown0) (some ⟨g, 0, none⟩) 0 0 [] (by rfl) (by rfl) (.inl ⟨rfl, rfl⟩) (fun _ hu => by cases hu) (by simp [maxLen]) (by omega) ?_; intro v' w1 hown1 hg1 hat1; obtain ⟨a', c', rfl, hlc', hcm'⟩ := hown1.slice; have hb1 := Blk.grown' hg1 (by exact h.1) (by exact hne); have k1 : w1.cell? ⟨r, 1, none⟩ = some (.int .i64 first) := hb1.cell 1; have k2 : w1.cell? ⟨r, 2, none⟩ = some (.slice (some ⟨g, 0, none⟩) l.length 1) := hb1.cell 2; have kf := hb1.frozen 2; have kf1 := hb1.frozen 1)
        all_goals
          go_wp2_with fail
          go_meet
          have hd : l.drop 1 = [] := List.eq_nil_of_length_eq_zero (by rw [List.length_drop, hl1.out])
          simp only [Nat.add_zero, List.append_nil] at hown1 hat1
          rw [putF, if_pos hE.out, if_pos hE.out]
          exact shift_ok h (by rfl) hg1 ⟨rfl, rfl, rfl, Nat.le_refl _, fun _ _ _ => rfl⟩ (by rw [hd]; rfl) (by rw [← List.map_drop, hd]; exact hown1) hat1 _
      · go_wp2_with fail
        go_region_law (refine step_append_on _ (by rfl) (.tmp 23) (.tmp 28) _ (by rfl) 2 i0 _ 1 8 Try.underlying56 hi0 hz0 hz1 hz2 rfl (by omega) (.slice (some ⟨g, 0, none⟩) 0 0) 0 [] (by rfl) (by exact hown0) (some ⟨g, 1, none⟩) (l.length - 1) (c - 1) ((l.map (Value.int .i64)).drop 1) (by rfl) (len_drop _ _ _) (by exact hsrc.out) (one_drop _ _ _) hq1 hq2 ?_; intro v' w1 hown1 hg1 hat1; obtain ⟨a', c', rfl, hlc', hcm'⟩ := hown1.slice; have hb1 := Blk.grown' hg1 (by exact h.1) (by exact hne); have k1 : w1.cell? ⟨r, 1, none⟩ = some (.int .i64 first) := hb1.cell 1; have k2 : w1.cell? ⟨r, 2, none⟩ = some (.slice (some ⟨g, 0, none⟩) l.length c) := hb1.cell 2; have kf := hb1.frozen 2; have kf1 := hb1.frozen 1)
        all_goals
          go_wp2_with fail
          go_meet
          simp only [Nat.zero_add, List.nil_append] at hown1 hat1
          rw [putF, if_pos hE.out, if_pos hE.out]
          exact shift_ok h (by rfl) hg1 ⟨rfl, rfl, rfl, Nat.le_refl _, fun _ _ _ => rfl⟩ (by simp) hown1 hat1 _
    · have hr2 : ((l.length : Int) == room) = false := by simpa using hr
      clear hr
      go_wp2_with fail
      go_meet
      have hne2 : ¬ (l.length : Int) = room := by simpa using hr2
      rw [putF, if_neg hne2, if_neg hne2]
      exact ⟨_, h, ⟨rfl, rfl, rfl, Nat.le_refl _, fun _ _ _ => rfl⟩, fun k hk => .inl hk⟩
  case rest =>
    obtain ⟨sv1, hA, hT, hF⟩ := hcut
    have hln : (if (l.length : Int) = room then l.drop 1 else l).length ≤ 4096 := by split <;> first | omega | (rw [List.length_drop]; omega)
    have hPL := Lib.hid (show putL room l v = (if (l.length : Int) = room then l.drop 1 else l) ++ [v] from rfl)
    generalize (if (l.length : Int) = room then l.drop 1 else l) = l1 at hA hln hPL
    obtain ⟨first1, hf1⟩ : ∃ x, x = putF room first l := ⟨_, rfl⟩
    rw [← hf1] at hA
    have hfirst := Lib.hid hf1
    clear hf1
    obtain ⟨⟨d0, d1, d2⟩, e0, e1, e2⟩ := hA.cells
    have hne1 := hA.ne_
    clear hne
    obtain ⟨a1, cc1, rfl, hlc1, hcm1⟩ := hA.2.slice
    have hown := hA.2.alloc (.cells #[.int .i64 v] 2)
    go_wp2_with (at_builtin; refine wpList_append_on _ rfl (.tmp 43) (.tmp 45) _ rfl 2 i0 _ 1 8 Try.underlying56 hi0 hz0 hz1 hz2 rfl (by omega) (.slice a1 l1.length cc1) _ _ rfl hown _ 1 1 [.int .i64 v] rfl rfl (.inr ⟨_, rfl, cell_one_new _ _ _⟩) (by simp [Value.oneCell']) (by simp only [maxLen]; omega) (by omega) ?_; intro v' w1 hown1 hg1 hat1; obtain ⟨a', c', rfl, hlc', hcm'⟩ := hown1.slice; have hb1 := (hA.1.alloc (.cells #[.int .i64 v] 2)).grown hg1 (fun e => hne1 e.symm); have k2 : w1.cell? ⟨r, 2, none⟩ = some (.slice a1 l1.length cc1) := hb1.cell 2; have kf := hb1.frozen 2; clear hown)
    go_ret
    rw [hPL.out, ← hfirst.out]
    refine ⟨rfl, .slice a' (l1.length + 1) c', ⟨hb1.set_ 2 _, ?_⟩, ?_, ?_⟩
    · have := hown1.far (p := ⟨r, 2, none⟩) (hown1.blk_ne hb1 (by decide)) (.slice a' (l1.length + 1) c')
      simpa using this
    · exact ((((hT.alloc _).grown hg1 (fun k hk => (hF k (.inr hk)))).setCell (.inl (.inl rfl)) _))
    · exact fun k hk => hk.elim (fun e => .inl (.inl e)) (fun e => (own_le hat1 (by have := hT.size; simp; omega) k e).elim (fun e2 => hF k (.inr e2)) .inr)

end Go.Proofs.Ytmceaffoffemlaa.RingI64
