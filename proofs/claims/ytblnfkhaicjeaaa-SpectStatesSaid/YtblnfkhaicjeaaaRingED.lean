/-
  Package ring at element type saved.entry: Cut, Drop.
-/
import Derived.Test.YtblnfkhaicjeaaaRingEC
namespace Go.Proofs.Ytblnfkhaicjeaaa.RingE
open Go.RowKit Go.Sort Go.Proofs.Ytblnfkhaicjeaaa.Gm
set_option linter.all false

theorem Turned.same {w w' : World} {r : Nat} {sv : Value} {room first : Int} {l : List NT} (h : At w r room first sv l) (hw : w'.heap = w.heap) (ht : Touch (fp r sv) w w') : Turned w r sv room first l w' :=
  ⟨sv, ⟨by unfold Blk; rw [hw]; exact h.1, h.2.of_heap fun g _ => by rw [hw]⟩, ht, fun _ hk => .inl hk⟩
theorem touch_same (S : Nat → Prop) (w : World) (n : Nat) : Touch S w (w.drewN n) := (Touch.refl S w).drewN n

def cutL (first : Int) (l : List NT) (n : Int) : List NT := if n < first + l.length then l.take (n - first).toNat else l

theorem cut_ok {w : World} {r n : Nat} {room first : Int} {l : List NT} {a : Option Addr} {c : Nat} (h : At w r room first (.slice a l.length c) l) {W : World} (hW : W.heap = w.heap) (hT : Touch (fp r (.slice a l.length c)) w W) (hn : n ≤ l.length) (hp : 0 < l.length) :
    Turned w r (.slice a l.length c) room first (l.take n) (W.setCell ⟨r, 2, none⟩ (.slice a n n)) := by
  have hne := h.ne_
  obtain ⟨a', c', hv, _, _, hs⟩ := h.slc
  cases hv
  obtain ⟨g, rfl, hgr, _⟩ := hs hp
  have hb := h.1.heap_eq hW
  have hlen : (l.take n).length = n := by simp [hn]
  have hcut := h.2.cut hn
  have hW2 : On W 149 67 (.slice (some ⟨g, 0, none⟩) n n) n ((flat cs l).take (n * 67)) := hcut.heap_eq hW
  refine ⟨.slice (some ⟨g, 0, none⟩) n n, ⟨hb.set_ 2 _, ?_⟩, hT.setCell (.inl (.inl rfl)) _, fun k hk => .inl hk⟩
  have := hW2.far (p := ⟨r, 2, none⟩) (by exact hne) (.slice (some ⟨g, 0, none⟩) n n)
  rw [hlen, ← flat_take cs_len]
  exact this

set_option maxRecDepth 100000 in
set_option maxHeartbeats 2000000 in
theorem cut_any (w : World) (r : Nat) (room first n : Int) (sv : Value) (l : List NT) (h : At w r room first sv l) (h0 : 0 ≤ first) (h1 : first + l.length ≤ 4611686018427387904) :
    Calls Try.prog 119 #[.pointer (some ⟨r, 0, none⟩), .int .i64 n] w fun e w' => e = .returned (.tuple #[]) ∧ Turned w r sv room first (cutL first l n) w' := by
  obtain ⟨⟨c0, c1, c2⟩, f0, f1, f2⟩ := h.cells
  have hp := Lib.hid (next_any w r room first sv l h h0 h1)
  obtain ⟨a, c, rfl, hlc, hcm⟩ := h.2.slice
  unfold maxLen at hcm
  by_cases b0 : n < first
  · by_cases hl : 0 < l.length
    · have hlt : first < first + (l.length : Int) := by omega
      have e4 := Lib.hid (show cutL first l n = l.take 0 by rw [cutL, if_pos (by omega)]; congr 1; omega)
      go_enter Try.func119, Try.ntmps119
      go_wp2_with fail
      refine hp.out.mono ?_
      rintro e w' ⟨rfl, nq, rfl⟩
      go_wp2_with fail
      go_region
      all_goals
        go_wp2_with fail
        refine bodyPost_end (results_none rfl _ _ _) rfl ⟨rfl, ?_⟩
        rw [e4.out]
        exact cut_ok h (by rfl) (touch_same _ _ _) (Nat.zero_le _) hl
    · have hlt : ¬ first < first + (l.length : Int) := by omega
      have e4 := Lib.hid (show cutL first l n = l by rw [cutL]; split <;> first | rfl | (rw [List.take_of_length_le (by omega)]))
      go_enter Try.func119, Try.ntmps119
      go_wp2_with fail
      refine hp.out.mono ?_
      rintro e w' ⟨rfl, nq, rfl⟩
      go_wp2_with fail
      refine bodyPost_end (results_none rfl _ _ _) rfl ⟨rfl, ?_⟩
      rw [e4.out]
      exact .same h rfl (touch_same _ _ _)
  · by_cases hl : n < first + (l.length : Int)
    · obtain ⟨j, hj⟩ : ∃ j : Nat, n - first = (j : Int) := ⟨(n - first).toNat, by omega⟩
      have hjl : j < l.length := by omega
      have e4 := Lib.hid (show cutL first l n = l.take j by rw [cutL, if_pos hl, hj, Int.toNat_natCast])
      have hj0 : (0 : Int) ≤ (j : Int) := by omega
      go_enter Try.func119, Try.ntmps119
      go_wp2_with fail
      refine hp.out.mono ?_
      rintro e w' ⟨rfl, nq, rfl⟩
      go_wp2_with fail
      go_region
      all_goals
        go_wp2_with fail
        refine bodyPost_end (results_none rfl _ _ _) rfl ⟨rfl, ?_⟩
        rw [e4.out]
        exact cut_ok h (by rfl) (touch_same _ _ _) (Nat.le_of_lt hjl) (by omega)
    · have e4 := Lib.hid (show cutL first l n = l by rw [cutL, if_neg hl])
      go_enter Try.func119, Try.ntmps119
      go_wp2_with fail
      refine hp.out.mono ?_
      rintro e w' ⟨rfl, nq, rfl⟩
      go_wp2_with fail
      refine bodyPost_end (results_none rfl _ _ _) rfl ⟨rfl, ?_⟩
      rw [e4.out]
      exact .same h rfl (touch_same _ _ _)

theorem touch_two {w W w1 : World} {r : Nat} {sv : Value} {row : Option Nat} (hT : Touch (fp r sv) w W) (hg : W.grownBy w1 row) (hr : ∀ k, row = some k → fp r sv k) (u1 u2 : Value) : Touch (fp r sv) w ((w1.setCell ⟨r, 2, none⟩ u1).setCell ⟨r, 1, none⟩ u2) :=
  ((hT.grown hg (fun k hk => Or.inl (hr k hk))).setCell (p := ⟨r, 2, none⟩) (Or.inl (Or.inl rfl)) _).setCell (p := ⟨r, 1, none⟩) (Or.inl (Or.inl rfl)) _

def dropF (first : Int) (len : Nat) (n : Int) : Int := if n ≤ first then first else first + min (n - first) len
def dropL (first : Int) (l : List NT) (n : Int) : List NT := if n ≤ first then l else l.drop (n - first).toNat

set_option maxRecDepth 100000 in
set_option maxHeartbeats 4000000 in
theorem drop_any (w : World) (r : Nat) (room first n : Int) (sv : Value) (l : List NT) (h : At w r room first sv l) (h0 : 0 ≤ first) (h1 : first + l.length ≤ 4611686018427387904) (hl : l.length ≤ 4096) (hn : n ≤ 9223372036854775807) :
    Calls Try.prog 121 #[.pointer (some ⟨r, 0, none⟩), .int .i64 n] w fun e w' => e = .returned (.tuple #[]) ∧ Turned w r sv room (dropF first l.length n) (dropL first l n) w' := by
  obtain ⟨⟨c0, c1, c2⟩, f0, f1, f2⟩ := h.cells
  by_cases b0 : n ≤ first
  · have e4 := Lib.hid (show dropL first l n = l by rw [dropL, if_pos b0])
    have e5 := Lib.hid (show dropF first l.length n = first by rw [dropF, if_pos b0])
    go_enter Try.func121, Try.ntmps121
    go_wp2_with fail
    refine bodyPost_ret (results_none rfl _ _ _) rfl ⟨rfl, ?_⟩
    rw [e4.out, e5.out]
    exact .same h rfl (touch_same _ _ 0)
  · obtain ⟨k, hk⟩ : ∃ k : Nat, min (n - first) (l.length : Int) = (k : Int) := ⟨(min (n - first) (l.length : Int)).toNat, by omega⟩
    have hkl : k ≤ l.length := by omega
    have e4 := Lib.hid (show dropL first l n = l.drop k by
      rw [dropL, if_neg b0]
      rcases Nat.le_total l.length (n - first).toNat with h2 | h2
      · rw [List.drop_eq_nil_of_le h2, List.drop_eq_nil_of_le (by omega)]
      · congr 1; omega)
    have e5 := Lib.hid (show dropF first l.length n = first + k by rw [dropF, if_neg b0, hk])
    have hk2 : (if (l.length : Int) < n - first then (l.length : Int) else n - first) = (k : Int) := by rw [← hk]; split <;> omega
    have hk0 : (0 : Int) ≤ (k : Int) := by omega
    have hkl2 : (k : Int) ≤ (l.length : Int) := by omega
    have hsum : first + (k : Int) ≤ 4611686018427387904 := by omega
    clear hk
    obtain ⟨i0, hi0, hz0, hz1, hz2⟩ := info_parts info
    obtain ⟨a, c, rfl, hlc, hcm⟩ := h.2.slice
    have hne := h.ne_
    go_enter Try.func121, Try.ntmps121
    go_wp2_with fail
    have hq1 : 0 + (l.length - k) ≤ maxLen := by simp only [maxLen]; omega
    have hq2 : (0 + (l.length - k)) * 536 ≤ 140737488355328 := by omega
    rcases h.2.form with ⟨hv, hl0, _⟩ | ⟨g, c', hv, _, hcm, _, _, _, _⟩
    · obtain rfl : l = [] := List.eq_nil_of_length_eq_zero hl0
      simp only [List.length_nil] at *
      cases hv
      obtain rfl : k = 0 := by omega
      have hown0 : On w 149 67 (.slice none 0 0) 0 [] := On.nil _ _ _
      have e6 := Lib.hid (show dropF first ([] : List NT).length n = first by have := e5.out; simpa using this)
      go_region
      go_wp2_with fail
      go_region_law (refine step_append_on _ (by rfl) (.tmp 28) (.tmp 34) _ (by rfl) 149 i0 _ 67 536 Try.underlying186 hi0 hz0 hz1 hz2 rfl (by omega) (.slice none 0 0) 0 [] (by rfl) (by exact hown0) none 0 0 [] (by rfl) (by rfl) (.inl ⟨rfl, rfl⟩) (fun _ hu => by cases hu) (by simp [maxLen]) (by omega) ?_; intro v' w1 hown1 hg1 hat1; obtain ⟨a', c', rfl, hlc', hcm'⟩ := hown1.slice; have hb1 := Blk.grown' hg1 (by exact h.1) (by exact hne); have k1 : w1.cell? ⟨r, 1, none⟩ = some (.int .i64 first) := hb1.cell 1; have k2 : w1.cell? ⟨r, 2, none⟩ = some (.slice none 0 0) := hb1.cell 2; have kf := hb1.frozen 2; have kf1 := hb1.frozen 1)
      all_goals
        go_wp2_with fail
        refine bodyPost_end (results_none rfl _ _ _) rfl ⟨rfl, ?_⟩
        rw [e4.out, e6.out]
        simp only [Nat.add_zero, List.append_nil] at hown1 hat1
        have hb3 := (hb1.set_ 2 (.slice a' 0 c')).set_ 1 (.int .i64 first)
        refine ⟨.slice a' 0 c', ⟨hb3, ?_⟩, touch_two (w := w) (W := w.drew.drew) (r := r) ⟨rfl, rfl, rfl, Nat.le_refl _, fun _ _ _ => rfl⟩ hg1 (fun k hk => by simp [Value.ownBlock] at hk) _ _, fun k hk => hk.elim (fun e => .inl (.inl e)) (fun e => (own_le hat1 (Nat.le_refl _) k e).imp .inr id)⟩
        exact (hown1.far (p := ⟨r, 2, none⟩) (hown1.blk_ne hb1 (by decide)) _).far (p := ⟨r, 1, none⟩) (hown1.blk_ne hb1 (by decide)) _
    · cases hv
      have hown0 : On w 149 67 (.slice (some ⟨g, 0, none⟩) 0 0) 0 [] := by simpa using h.2.cut (Nat.zero_le _)
      have hsrc := Lib.hid (src_drop_n h.2 k)
      have hdl := Lib.hid (show ((flat cs l).drop (k * 67)).length = (l.length - k) * 67 by rw [flat_drop cs_len, flat_len cs_len, List.length_drop])
      have hone := Lib.hid (show ∀ u ∈ (flat cs l).drop (k * 67), u.oneCell' = true from fun u hu => one_flat cs_one l u (List.mem_of_mem_drop hu))
      unfold maxLen at hcm
      have hkc : (k : Int) ≤ (c : Int) := by omega
      go_region
      go_wp2_with fail
      by_cases hc1 : c = k
      · subst hc1
        have hl1 := Lib.hid (show l.length = c by omega)
        go_region_law (refine step_append_on _ (by rfl) (.tmp 28) (.tmp 34) _ (by rfl) 149 i0 _ 67 536 Try.underlying186 hi0 hz0 hz1 hz2 rfl (by omega) (.slice (some ⟨g, 0, none⟩) 0 0) 0 [] (by rfl) (by exact hown0) (some ⟨g, 0, none⟩) 0 0 [] (by rfl) (by rfl) (.inl ⟨rfl, rfl⟩) (fun _ hu => by cases hu) (by simp [maxLen]) (by omega) ?_; intro v' w1 hown1 hg1 hat1; obtain ⟨a', c', rfl, hlc', hcm'⟩ := hown1.slice; have hb1 := Blk.grown' hg1 (by exact h.1) (by exact hne); have k1 : w1.cell? ⟨r, 1, none⟩ = some (.int .i64 first) := hb1.cell 1; have k2 : w1.cell? ⟨r, 2, none⟩ = some (.slice (some ⟨g, 0, none⟩) l.length c) := hb1.cell 2; have kf := hb1.frozen 2; have kf1 := hb1.frozen 1)
        all_goals
          go_wp2_with fail
          refine bodyPost_end (results_none rfl _ _ _) rfl ⟨rfl, ?_⟩
          rw [e4.out, e5.out]
          have hd : l.drop c = [] := List.eq_nil_of_length_eq_zero (by rw [List.length_drop, hl1.out, Nat.sub_self])
          simp only [Nat.add_zero, List.append_nil] at hown1 hat1
          exact shift_ok h (by rfl) hg1 ⟨rfl, rfl, rfl, Nat.le_refl _, fun _ _ _ => rfl⟩ (by rw [hd]; rfl) (by rw [flat_drop cs_len, hd]; exact hown1) hat1 _
      · have hkc2 : (k : Int) < (c : Int) := by omega
        go_region_law (refine step_append_on _ (by rfl) (.tmp 28) (.tmp 34) _ (by rfl) 149 i0 _ 67 536 Try.underlying186 hi0 hz0 hz1 hz2 rfl (by omega) (.slice (some ⟨g, 0, none⟩) 0 0) 0 [] (by rfl) (by exact hown0) (some ⟨g, k * 67, none⟩) (l.length - k) (c - k) ((flat cs l).drop (k * 67)) (by rfl) hdl.out (by exact hsrc.out) hone.out hq1 hq2 ?_; intro v' w1 hown1 hg1 hat1; obtain ⟨a', c', rfl, hlc', hcm'⟩ := hown1.slice; have hb1 := Blk.grown' hg1 (by exact h.1) (by exact hne); have k1 : w1.cell? ⟨r, 1, none⟩ = some (.int .i64 first) := hb1.cell 1; have k2 : w1.cell? ⟨r, 2, none⟩ = some (.slice (some ⟨g, 0, none⟩) l.length c) := hb1.cell 2; have kf := hb1.frozen 2; have kf1 := hb1.frozen 1)
        all_goals
          go_wp2_with fail
          refine bodyPost_end (results_none rfl _ _ _) rfl ⟨rfl, ?_⟩
          rw [e4.out, e5.out]
          simp only [Nat.zero_add, List.nil_append] at hown1 hat1
          exact shift_ok h (by rfl) hg1 ⟨rfl, rfl, rfl, Nat.le_refl _, fun _ _ _ => rfl⟩ (by simp) hown1 hat1 _
end Go.Proofs.Ytblnfkhaicjeaaa.RingE
