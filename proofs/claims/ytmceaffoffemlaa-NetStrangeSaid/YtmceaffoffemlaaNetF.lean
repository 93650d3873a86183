/-
  net: Move.
-/
import Derived.Test.YtmceaffoffemlaaNetD
namespace Go.Proofs.Ytmceaffoffemlaa.Netw
open Go.RowKit
set_option linter.all false

theorem ncs_upd (s : NS) (k : Nat) (hk : k < 4) (v3 : Value) (es : Nat → List E) : (ncs s).setIfInBounds k v3 = ncs { s with v := upd s.v k v3, es := es } := by
  obtain rfl | rfl | rfl | rfl : k = 0 ∨ k = 1 ∨ k = 2 ∨ k = 3 := by omega
  all_goals rfl
/-- A way is laid anew. -/
theorem NAt.put {w W : World} {n k : Nat} {s : NS} {v3 : Value} {es3 : List E} (h : NAt w n s) (hk : k < 4) (hbx : Blk W n 86 (ncs s)) (hway : ∀ j, j < 4 → j ≠ k → On W 91 2 (s.v j) (s.es j).length (flat ecs (s.es j)))
    (h3 : On W 91 2 v3 es3.length (flat ecs es3)) (hat : ∀ g, v3.ownBlock = some g → (s.v k).ownBlock = some g ∨ w.heap.size ≤ g) :
    NAt (W.setCell ⟨n, k, none⟩ v3) n { s with v := upd s.v k v3, es := upd s.es k es3 } := by
  refine ⟨?_, ?_, ?_⟩
  · rw [← ncs_upd s k hk v3 (upd s.es k es3)]
    exact hbx.set_ k v3
  · intro j hj
    by_cases hjk : j = k
    · subst hjk
      have e1 : (upd s.es j es3) j = es3 := by simp [upd]
      have e2 : (upd s.v j v3) j = v3 := by simp [upd]
      show On _ _ 2 ((upd s.v j v3) j) ((upd s.es j es3) j).length (flat ecs ((upd s.es j es3) j))
      rw [e1, e2]
      exact h3.far (p := ⟨n, j, none⟩) (h3.blk_ne hbx (by decide)) v3
    · have e1 : (upd s.es k es3) j = s.es j := by simp [upd, hjk]
      have e2 : (upd s.v k v3) j = s.v j := by simp [upd, hjk]
      show On _ _ 2 ((upd s.v k v3) j) ((upd s.es k es3) j).length (flat ecs ((upd s.es k es3) j))
      rw [e1, e2]
      have hw2 := hway j hj hjk
      exact hw2.far (p := ⟨n, k, none⟩) (hw2.blk_ne hbx (by decide)) v3
  · intro i j g hi hj hij hg hg'
    simp only [upd] at hg hg'
    by_cases c1 : i = k
    · rw [if_pos c1] at hg
      rw [if_neg (by omega)] at hg'
      rcases hat g hg with e | e
      · exact h.ne k j g hk hj (by omega) e hg'
      · have := (h.way j hj).lt g hg'; omega
    · rw [if_neg c1] at hg
      by_cases c2 : j = k
      · rw [if_pos c2] at hg'
        rcases hat g hg' with e | e
        · exact h.ne i k g hi hk c1 hg e
        · have := (h.way i hi).lt g hg; omega
      · rw [if_neg c2] at hg'
        exact h.ne i j g hi hj hij hg hg'
theorem NAt.count {W : World} {n i : Nat} {s : NS} (h : NAt W n s) (s' : NS) (x : Value) (hi : (ncs s).setIfInBounds i x = ncs s') (h1 : s'.v = s.v) (h2 : s'.es = s.es) : NAt (W.setCell ⟨n, i, none⟩ x) n s' :=
  ⟨by rw [← hi]; exact h.box.set_ i x, fun j hj => by rw [h1, h2]; exact (h.way j hj).far (p := ⟨n, i, none⟩) ((h.way j hj).blk_ne h.box (by decide)) x, by rw [h1]; exact h.ne⟩
/-- What Move and Drop leave. -/
def MovedTo (w : World) (n : Nat) (s : NS) (k m : Nat) (mv : Int) (W : World) : Prop :=
  ∃ v3, NAt W n { s with v := upd s.v k v3, es := upd s.es k ((s.es k).eraseIdx m), moved := mv } ∧ Touch (fun g => g = n ∨ (s.v k).ownBlock = some g) w W ∧ (∀ g, v3.ownBlock = some g → (s.v k).ownBlock = some g ∨ w.heap.size ≤ g)
theorem drop_fin {w w2 : World} {n k m g c : Nat} {s : NS} {v3 : Value} (h : NAt w n s) (hk : k < 4) (hm : m < (s.es k).length) (hv : s.v k = .slice (some ⟨g, 0, none⟩) (s.es k).length c)
    (hg2 : w.drew.grownBy w2 (Value.slice (some ⟨g, 0, none⟩) m m).ownBlock)
    (hown2 : On w2 91 2 v3 (m + ((s.es k).length - (m + 1))) ((flat ecs (s.es k)).take (m * 2) ++ (flat ecs (s.es k)).drop ((m + 1) * 2)))
    (hat2 : v3.ownBlock = (Value.slice (some ⟨g, 0, none⟩) m m).ownBlock ∨ v3.ownBlock = some w.drew.heap.size) :
    MovedTo w n s k m s.moved (w2.setCell ⟨n, k, none⟩ v3) := by
  have hgo : (s.v k).ownBlock = some g := by rw [hv]; rfl
  have hg2' : w.grownBy w2 (some g) := ⟨hg2.os, hg2.tape, hg2.output, hg2.size, hg2.block⟩
  have h3 : ∀ g', v3.ownBlock = some g' → (s.v k).ownBlock = some g' ∨ w.heap.size ≤ g' := fun g' hg' => by
    rcases hat2 with e | e
    · exact .inl (by rw [hgo, ← hg', e]; rfl)
    · rw [e] at hg'; cases hg'; exact .inr (Nat.le_refl _)
  have hbx2 := Blk.grown' hg2' h.box (by rw [← hgo]; exact (h.way k hk).blk_ne h.box (by decide))
  have e3 : (flat ecs (s.es k)).take (m * 2) ++ (flat ecs (s.es k)).drop ((m + 1) * 2) = flat ecs ((s.es k).eraseIdx m) := by
    rw [flat_take (cs := ecs) (s := 2) (fun _ => rfl), flat_drop (cs := ecs) (s := 2) (fun _ => rfl), ← flat_app, List.eraseIdx_eq_take_drop_succ]
  have e4 : m + ((s.es k).length - (m + 1)) = ((s.es k).eraseIdx m).length := by rw [List.length_eraseIdx]; rw [if_pos hm]; omega
  rw [e3, e4] at hown2
  refine ⟨v3, ?_, ?_, h3⟩
  · exact NAt.put h hk hbx2 (fun j hj hjk => (h.way j hj).grown hg2' (by
      cases hb : (s.v j).ownBlock with
      | none => exact .inl rfl
      | some g' => exact .inr (fun e => h.ne j k g' hj hk hjk hb (by rw [hgo]; exact e.symm)))) hown2 h3
  · exact Touch.setCell ((Touch.refl _ w).grown hg2' (fun k' hk' => .inl (.inr (by rw [hgo]; exact hk')))) (.inl (.inl rfl)) _
theorem MovedTo.count {w W : World} {n k m : Nat} {s : NS} {mv : Int} (h : MovedTo w n s k m mv W) (x : Int) : MovedTo w n s k m x (W.setCell ⟨n, 6, none⟩ (.int .i64 x)) := by
  obtain ⟨v3, h1, h2, h3⟩ := h
  exact ⟨v3, h1.count _ _ rfl rfl rfl, h2.setCell (.inl (.inl rfl)) _, h3⟩
theorem one_ecs (l : List E) (h1 : ∀ e ∈ l, e.1.oneCell' = true) : ∀ u ∈ flat ecs l, u.oneCell' = true := by
  intro u hu
  simp only [flat, List.mem_flatMap] at hu
  obtain ⟨e, he, hu⟩ := hu
  simp only [ecs, List.mem_cons, List.not_mem_nil, or_false] at hu
  rcases hu with rfl | rfl
  · exact h1 e he
  · rfl

set_option maxRecDepth 100000 in
set_option maxHeartbeats 4000000 in
theorem move_ok (w : World) (n d b m : Nat) (i : Int) (s : NS) (e : E) (h : NAt w n s) (hd : d < 2) (hb : b < 2) (hi : -9223372036854775808 ≤ i ∧ i ≤ 9223372036854775807)
    (hm : (s.es (2 * d + b))[m]? = some e) (him : i % ((s.es (2 * d + b)).length : Int) = m) (hlen : (s.es (2 * d + b)).length ≤ 128) (h1 : ∀ e ∈ s.es (2 * d + b), e.1.oneCell' = true) (hmv : 0 ≤ s.moved ∧ s.moved ≤ 1000000) :
    Calls Try.prog 13 #[.pointer (some ⟨n, 0, none⟩), .int .i64 d, .int .i64 b, .int .i64 i] w fun x w' => x = .returned (.tuple #[e.1, .int .i64 0]) ∧ MovedTo w n s (2 * d + b) m (s.moved + 1) w' := by
  obtain ⟨i1, hi1, hy0, hy1, hy2⟩ := info_parts mail_info
  have hk4 : 2 * d + b < 4 := by omega
  obtain ⟨g, c, e1, hlt, hlc, m0, m1⟩ := mail_cell h hk4 hm
  have hc := h.cell hk4
  have hway := h.way _ hk4
  rw [e1] at hc hway
  have p := at_some w n d b _ c i _ hd hb (by omega) (by omega) hi hc
  rw [him] at p
  have P := Lib.hid p
  clear p
  generalize hk : 2 * d + b = k at *
  have hcut := hway.cut (k := m) (by omega)
  have hsrc := src_drop_n hway (m + 1)
  have hone := one_ecs (s.es k) h1
  have c6 := h.box.cell 6
  have hi1' : (0 : Int) ≤ (m : Int) := by omega
  have hi2 : (m : Int) < ((s.es k).length : Int) := by omega
  have hi3 : (m : Int) ≤ (c : Int) := by omega
  have hi4 : ((s.es k).length : Int) ≤ (c : Int) := by omega
  go_enter Try.func13, Try.ntmps13
  go_wp2_with fail
  refine P.out.mono ?_
  rintro x w' ⟨rfl, rfl⟩
  go_upto_region 5 with fail
  have hbx := h.box
  have hne1 : (Value.slice (some ⟨g, 0, none⟩) m m).ownBlock ≠ some n := hcut.blk_ne hbx (by decide)
  have NK := Lib.hid (show (ncs s)[k]? = some (s.v k) from (hbx.cell k).symm.trans (h.cell hk4))
  have hnl : ((flat ecs (s.es k)).drop ((m + 1) * 2)).length = ((s.es k).length - (m + 1)) * 2 := by rw [flat_drop (cs := ecs) (s := 2) (fun _ => rfl), flat_len (cs := ecs) (s := 2) (fun _ => rfl), List.length_drop]
  have hq1 : m + ((s.es k).length - (m + 1)) ≤ maxLen := by simp only [maxLen]; omega
  have hq2 : (m + ((s.es k).length - (m + 1))) * 32 ≤ 140737488355328 := by omega
  have HNL := Lib.hid hnl
  have HONE := Lib.hid (fun u (hu : u ∈ (flat ecs (s.es k)).drop ((m + 1) * 2)) => hone u (List.mem_of_mem_drop hu))
  clear hnl hone
  have hs1 : (m : Int) + 1 ≤ ((s.es k).length : Int) := by omega
  have hs2 : (0 : Int) ≤ (m : Int) + 1 := by omega
  have hw : IntKind.i64.wrap ((m : Int) + 1) = ((m + 1 : Nat) : Int) := by rw [IntWalk.i64_in _ (by omega)]; omega
  have FIN := Lib.hid (fun (w2 : World) (v3 : Value) q1 q2 q3 => drop_fin (w2 := w2) (v3 := v3) h hk4 hlt e1 q1 q2 q3)
  have NK6 := Lib.hid (show (ncs s)[6]? = some (.int .i64 s.moved) from rfl)
  have hmv' : IntKind.i64.wrap (s.moved + 1) = s.moved + 1 := IntWalk.i64_in _ (by omega)
  by_cases hcm : c = m + 1
  · have hlm := Lib.hid (show (s.es k).length = m + 1 by omega)
    have hlm1 : (m : Int) ≤ (m : Int) + 1 := by omega
    have hlm2 : ((s.es k).length : Int) ≤ (m : Int) + 1 := by omega
    have HZ := Lib.hid (show (s.es k).length - (m + 1) = 0 by omega)
    have HD := Lib.hid (show (flat ecs (s.es k)).drop ((m + 1) * 2) = [] from List.eq_nil_of_length_eq_zero (by rw [HNL.out, HZ.out, Nat.zero_mul]))
    go_region_law (refine step_append_on _ (by rfl) (.tmp 39) (.tmp 45) _ (by rfl) 91 i1 _ 2 32 Try.underlying82 hi1 hy0 hy1 hy2 rfl (by omega) (.slice (some ⟨g, 0, none⟩) m m) m _ (by rfl) (by exact hcut) (some ⟨g, 0, none⟩) ((s.es k).length - (m + 1)) 0 ((flat ecs (s.es k)).drop ((m + 1) * 2)) (by rfl) (by exact HNL.out) (by exact .inl ⟨HZ.out, HD.out⟩) (by exact HONE.out) hq1 hq2 ?_; intro v2 w2 hown2 hg2 hat2; have hbx2 := Blk.grown' hg2 (by exact hbx) (by exact hne1); have kd := (hbx2.cell k).trans NK.out; have kf := hbx2.frozen k; obtain ⟨a3, c3, rfl, hlc3, hcm3⟩ := hown2.slice)
    all_goals
      have RES := FIN.out w2 _ (by exact hg2) hown2 (by exact hat2)
      obtain ⟨v4, hN4, hT4, hv4⟩ := RES
      have c6' := hN4.box.cell 6
      have f6' := hN4.box.frozen 6
      have c6'' := c6'.trans (show _ = some (.int .i64 s.moved) from rfl)
      clear c6 c6'
      go_wp2_with fail
      go_ret2
      exact ⟨rfl, MovedTo.count ⟨v4, hN4, hT4, hv4⟩ (s.moved + 1)⟩
  · go_region_law (refine step_append_on _ (by rfl) (.tmp 39) (.tmp 45) _ (by rfl) 91 i1 _ 2 32 Try.underlying82 hi1 hy0 hy1 hy2 rfl (by omega) (.slice (some ⟨g, 0, none⟩) m m) m _ (by rfl) (by exact hcut) (some ⟨g, (m + 1) * 2, none⟩) ((s.es k).length - (m + 1)) (c - (m + 1)) ((flat ecs (s.es k)).drop ((m + 1) * 2)) (by rfl) (by exact HNL.out) (by exact hsrc) (by exact HONE.out) hq1 hq2 ?_; intro v2 w2 hown2 hg2 hat2; have hbx2 := Blk.grown' hg2 (by exact hbx) (by exact hne1); have kd := (hbx2.cell k).trans NK.out; have kf := hbx2.frozen k; obtain ⟨a3, c3, rfl, hlc3, hcm3⟩ := hown2.slice)
    all_goals
      have RES := FIN.out w2 _ (by exact hg2) hown2 (by exact hat2)
      obtain ⟨v4, hN4, hT4, hv4⟩ := RES
      have c6' := hN4.box.cell 6
      have f6' := hN4.box.frozen 6
      have c6'' := c6'.trans (show _ = some (.int .i64 s.moved) from rfl)
      clear c6 c6'
      go_wp2_with fail
      go_ret2
      exact ⟨rfl, MovedTo.count ⟨v4, hN4, hT4, hv4⟩ (s.moved + 1)⟩

set_option maxRecDepth 100000 in
set_option maxHeartbeats 4000000 in
theorem drop_ok (w : World) (n d b m : Nat) (i : Int) (s : NS) (e : E) (h : NAt w n s) (hd : d < 2) (hb : b < 2) (hi : -9223372036854775808 ≤ i ∧ i ≤ 9223372036854775807)
    (hm : (s.es (2 * d + b))[m]? = some e) (him : i % ((s.es (2 * d + b)).length : Int) = m) (hlen : (s.es (2 * d + b)).length ≤ 128) (h1 : ∀ e ∈ s.es (2 * d + b), e.1.oneCell' = true) :
    Calls Try.prog 43 #[.pointer (some ⟨n, 0, none⟩), .int .i64 d, .int .i64 b, .int .i64 i] w fun x w' => x = .returned (.int .i64 0) ∧ MovedTo w n s (2 * d + b) m s.moved w' := by
  obtain ⟨i1, hi1, hy0, hy1, hy2⟩ := info_parts mail_info
  have hk4 : 2 * d + b < 4 := by omega
  obtain ⟨g, c, e1, hlt, hlc, m0, m1⟩ := mail_cell h hk4 hm
  have hc := h.cell hk4
  have hway := h.way _ hk4
  rw [e1] at hc hway
  have p := at_some w n d b _ c i _ hd hb (by omega) (by omega) hi hc
  rw [him] at p
  have P := Lib.hid p
  clear p
  generalize hk : 2 * d + b = k at *
  have hcut := hway.cut (k := m) (by omega)
  have hsrc := src_drop_n hway (m + 1)
  have hone := one_ecs (s.es k) h1
  have hi1' : (0 : Int) ≤ (m : Int) := by omega
  have hi2 : (m : Int) < ((s.es k).length : Int) := by omega
  have hi3 : (m : Int) ≤ (c : Int) := by omega
  have hi4 : ((s.es k).length : Int) ≤ (c : Int) := by omega
  go_enter Try.func43, Try.ntmps43
  go_wp2_with fail
  refine P.out.mono ?_
  rintro x w' ⟨rfl, rfl⟩
  go_upto_region 4 with fail
  have hbx := h.box
  have hne1 : (Value.slice (some ⟨g, 0, none⟩) m m).ownBlock ≠ some n := hcut.blk_ne hbx (by decide)
  have NK := Lib.hid (show (ncs s)[k]? = some (s.v k) from (hbx.cell k).symm.trans (h.cell hk4))
  have hnl : ((flat ecs (s.es k)).drop ((m + 1) * 2)).length = ((s.es k).length - (m + 1)) * 2 := by rw [flat_drop (cs := ecs) (s := 2) (fun _ => rfl), flat_len (cs := ecs) (s := 2) (fun _ => rfl), List.length_drop]
  have hq1 : m + ((s.es k).length - (m + 1)) ≤ maxLen := by simp only [maxLen]; omega
  have hq2 : (m + ((s.es k).length - (m + 1))) * 32 ≤ 140737488355328 := by omega
  have HNL := Lib.hid hnl
  have HONE := Lib.hid (fun u (hu : u ∈ (flat ecs (s.es k)).drop ((m + 1) * 2)) => hone u (List.mem_of_mem_drop hu))
  clear hnl hone
  have hs1 : (m : Int) + 1 ≤ ((s.es k).length : Int) := by omega
  have hs2 : (0 : Int) ≤ (m : Int) + 1 := by omega
  have hw : IntKind.i64.wrap ((m : Int) + 1) = ((m + 1 : Nat) : Int) := by rw [IntWalk.i64_in _ (by omega)]; omega
  have FIN := Lib.hid (fun (w2 : World) (v3 : Value) q1 q2 q3 => drop_fin (w2 := w2) (v3 := v3) h hk4 hlt e1 q1 q2 q3)
  by_cases hcm : c = m + 1
  · have hlm := Lib.hid (show (s.es k).length = m + 1 by omega)
    have hlm1 : (m : Int) ≤ (m : Int) + 1 := by omega
    have hlm2 : ((s.es k).length : Int) ≤ (m : Int) + 1 := by omega
    have HZ := Lib.hid (show (s.es k).length - (m + 1) = 0 by omega)
    have HD := Lib.hid (show (flat ecs (s.es k)).drop ((m + 1) * 2) = [] from List.eq_nil_of_length_eq_zero (by rw [HNL.out, HZ.out, Nat.zero_mul]))
    go_region_law (refine step_append_on _ (by rfl) (.tmp 30) (.tmp 36) _ (by rfl) 91 i1 _ 2 32 Try.underlying82 hi1 hy0 hy1 hy2 rfl (by omega) (.slice (some ⟨g, 0, none⟩) m m) m _ (by rfl) (by exact hcut) (some ⟨g, 0, none⟩) ((s.es k).length - (m + 1)) 0 ((flat ecs (s.es k)).drop ((m + 1) * 2)) (by rfl) (by exact HNL.out) (by exact .inl ⟨HZ.out, HD.out⟩) (by exact HONE.out) hq1 hq2 ?_; intro v2 w2 hown2 hg2 hat2; have hbx2 := Blk.grown' hg2 (by exact hbx) (by exact hne1); have kd := (hbx2.cell k).trans NK.out; have kf := hbx2.frozen k; obtain ⟨a3, c3, rfl, hlc3, hcm3⟩ := hown2.slice)
    all_goals
      have RES := FIN.out w2 _ (by exact hg2) hown2 (by exact hat2)
      go_wp2_with fail
      go_ret
      exact ⟨rfl, RES⟩
  · go_region_law (refine step_append_on _ (by rfl) (.tmp 30) (.tmp 36) _ (by rfl) 91 i1 _ 2 32 Try.underlying82 hi1 hy0 hy1 hy2 rfl (by omega) (.slice (some ⟨g, 0, none⟩) m m) m _ (by rfl) (by exact hcut) (some ⟨g, (m + 1) * 2, none⟩) ((s.es k).length - (m + 1)) (c - (m + 1)) ((flat ecs (s.es k)).drop ((m + 1) * 2)) (by rfl) (by exact HNL.out) (by exact hsrc) (by exact HONE.out) hq1 hq2 ?_; intro v2 w2 hown2 hg2 hat2; have hbx2 := Blk.grown' hg2 (by exact hbx) (by exact hne1); have kd := (hbx2.cell k).trans NK.out; have kf := hbx2.frozen k; obtain ⟨a3, c3, rfl, hlc3, hcm3⟩ := hown2.slice)
    all_goals
      have RES := FIN.out w2 _ (by exact hg2) hown2 (by exact hat2)
      go_wp2_with fail
      go_ret
      exact ⟨rfl, RES⟩
end Go.Proofs.Ytmceaffoffemlaa.Netw
