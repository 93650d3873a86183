/-
  backstaylaw29.do: Move, the ticks, Send several times. Conditions: numbers without overflow.
-/
import Derived.Test.YtmceaffoffemlaaNetW
namespace Go.Proofs.Ytmceaffoffemlaa.Netw
open Go.RowKit
set_option linter.all false

set_option maxRecDepth 100000 in
set_option maxHeartbeats 4000000 in
theorem do_move (w : World) (B n : Nat) (s : NS) (a : Nat → Option Addr) (l c : Nat → Nat) (es : Nat → List E) (m : MN) (cm : Int) (to_ by_ i bt oft : Int) (da : Option Addr) (dl dc : Nat)
    (hP : PN w B n s m) (hD : DN w (Own s n) a l c es m) (hm : MOk m cm) (hcm : cm ≤ 900000) (hB : B ≤ w.heap.size) (hi : -9223372036854775808 ≤ i ∧ i ≤ 9223372036854775807) :
    Calls Try.prog 75 #[.pointer (some ⟨n, 0, none⟩), dnv a l c m.full m.long m.moved, .agg (opv 1 to_ by_ i bt da dl dc oft)] w (DoRes w B n s (cm + 200)) := by
  obtain ⟨h0, hbx0⟩ := li_at (ov := opv 1 to_ by_ i bt da dl dc oft) hP hD
  have H0 := Lib.hid h0
  have HBX := Lib.hid hbx0
  have pM := Lib.hid (move_any _ B n s m cm to_ by_ i h0.pn hm (by omega) (by have := h0.size; omega) hi)
  obtain ⟨m2, hm2⟩ : ∃ m2, m2 = (m.move to_ by_ i).1 := ⟨_, rfl⟩
  obtain ⟨bs, hbs⟩ : ∃ bs, bs = (m.move to_ by_ i).2.1 := ⟨_, rfl⟩
  obtain ⟨q2, hq2⟩ : ∃ q2, q2 = (m.move to_ by_ i).2.2 := ⟨_, rfl⟩
  have hmk : MOk m2 (cm + 200) := by rw [hm2]; exact (hm.move to_ by_ i).mono (by omega)
  have hbl : bs.length ≤ 1400 := by
    rw [hbs]; unfold MN.move
    by_cases hw : isWay to_ by_
    · rw [if_pos hw]
      cases hx : (m.L (wayNo to_ by_))[place i (m.L (wayNo to_ by_))]? with
      | none => simp
      | some x => exact (hm.sz _ (wayNo_lt hw) x (List.mem_of_getElem? hx)).1
    · rw [if_neg hw]; simp
  have HMK := Lib.hid hmk
  have HM2 := Lib.hid hm2
  have HQ2 := Lib.hid hq2
  have HBS := Lib.hid hbs
  clear h0 hP hD hbx0 hmk hm2 hq2 hbs
  unfold dnv nc opv
  go_enter Try.func75, Try.ntmps75
  go_wp2_with fail
  refine pM.out.mono ?_
  rintro e w1 ⟨pa, pl, pcp, rfl, hrow, hW⟩
  rw [← HQ2.out]
  rw [← HBS.out] at hrow
  rw [← HM2.out] at hW
  obtain ⟨s1, hL1⟩ := H0.out.prog hW
  have hbx := HBX.out.touch (by obtain ⟨_, _, t, _⟩ := hW; exact t) (H0.out.far (by omega) (by omega))
  have b0 := hbx.cell 0; have b1 := hbx.cell 1; have b2 := hbx.cell 2; have b3 := hbx.cell 3; have b4 := hbx.cell 4; have b5 := hbx.cell 5; have b6 := hbx.cell 6
  unfold nvc at b0 b1 b2 b3 b4 b5 b6
  have o1 : w1.cell? ⟨w.heap.size + 1, 1, none⟩ = some (.int .i64 to_) := hL1.op.cell 1
  have o2 : w1.cell? ⟨w.heap.size + 1, 2, none⟩ = some (.int .i64 by_) := hL1.op.cell 2
  have o3 : w1.cell? ⟨w.heap.size + 1, 3, none⟩ = some (.int .i64 i) := hL1.op.cell 3
  have pR' := rmove_any w1 (O3 w s1 n) a l c es m cm to_ by_ i hL1.dn hm (by omega) hL1.o3 hi
  unfold dnv nc at pR'
  have pR := Lib.hid pR'
  have HL1 := Lib.hid hL1
  have HROW := Lib.hid hrow
  clear hW hL1 hbx pR' hrow pM
  go_wp2_with (first | (refine pR.out.mono ?_; rintro e w2 ⟨a2, l2, c2, es2, ra, rl, rc, rfl, hD2, hrd2, hB2⟩; unfold dnv nc) | fail)
  rw [← HM2.out, ← HQ2.out]
  rw [← HM2.out] at hD2
  rw [← HBS.out] at hrd2
  obtain ⟨g15, hg15⟩ : ∃ g, g = w2.heap.size := ⟨_, rfl⟩
  obtain ⟨U, hU⟩ : ∃ U, U = w2.alloc (.cells (nvc a2 l2 c2 m2.full m2.long m2.moved) 71) := ⟨_, rfl⟩
  unfold nvc at hU
  rw [← hU, ← hg15]
  have hb15 : Blk U g15 71 (nvc a2 l2 c2 m2.full m2.long m2.moved) := by rw [hU, hg15]; exact Blk.new _ _ _
  have hBU2 : Below w2.heap.size w2 U := by rw [hU]; exact (Below.refl _ _).alloc (Nat.le_refl _) _
  have hLU := (HL1.out.doc hB2 hD2).below hBU2
  have hrd := (hrd2.below hBU2).row
  have hro := (HROW.out.below hB2).below hBU2
  have e1 := hrd.1
  have e2 := hro.1
  obtain rfl : rl = bs.length := e1.symm
  obtain rfl : pl = bs.length := e2.symm
  have hz15 : w.heap.size + 3 ≤ g15 := by have := hB2.size; rw [hg15]; exact Nat.le_trans HL1.out.size this
  obtain ⟨bl, hbl2⟩ : ∃ bl, bl = bs.length := ⟨_, rfl⟩
  rw [← hbl2] at hrd hro hbl ⊢
  have pS := Lib.hid (same_bytes U.drew pa ra bl pcp rc bs (hro.below (below_drewN (Below.refl _ _) 1)) (hrd.below (below_drewN (Below.refl _ _) 1)) (by omega))
  have x0 : U.cell? ⟨g15, 0, none⟩ = some (.slice (a2 0) (l2 0) (c2 0)) := hb15.cell 0
  have x1 : U.cell? ⟨g15, 1, none⟩ = some (.slice (a2 1) (l2 1) (c2 1)) := hb15.cell 1
  have x2 : U.cell? ⟨g15, 2, none⟩ = some (.slice (a2 2) (l2 2) (c2 2)) := hb15.cell 2
  have x3 : U.cell? ⟨g15, 3, none⟩ = some (.slice (a2 3) (l2 3) (c2 3)) := hb15.cell 3
  have x4 : U.cell? ⟨g15, 4, none⟩ = some (.int .i64 m2.full) := hb15.cell 4
  have x5 : U.cell? ⟨g15, 5, none⟩ = some (.int .i64 m2.long) := hb15.cell 5
  have x6 : U.cell? ⟨g15, 6, none⟩ = some (.int .i64 m2.moved) := hb15.cell 6
  have ne1 : ¬ g15 = w.heap.size + 1 + 1 := by omega
  have ne2 : ¬ w.heap.size + 1 + 1 = g15 := by omega
  have HLU := Lib.hid hLU
  have H15 := Lib.hid hb15
  clear hD2 hB2 hb15 hU hg15 hBU2 hLU hrd hro hz15 e1 e2 b0 b1 b2 b3 b4 b5 b6 o1 o2 o3 pR hrd2 hbl2
  go_upto_region 8 with fail
  go_region_held3 (fun W' => W'.cell? ⟨g15, 0, none⟩ = some (.slice (a2 0) (l2 0) (c2 0)) ∧ W'.cell? ⟨g15, 1, none⟩ = some (.slice (a2 1) (l2 1) (c2 1)) ∧ W'.cell? ⟨g15, 2, none⟩ = some (.slice (a2 2) (l2 2) (c2 2)) ∧ W'.cell? ⟨g15, 3, none⟩ = some (.slice (a2 3) (l2 3) (c2 3)) ∧ W'.cell? ⟨g15, 4, none⟩ = some (.int .i64 m2.full) ∧ W'.cell? ⟨g15, 5, none⟩ = some (.int .i64 m2.long) ∧ W'.cell? ⟨g15, 6, none⟩ = some (.int .i64 m2.moved)) (first | go_keep | exact HS3.out) ((first | (go_at_call 14; (with_reducible refine pS.out.mono ?_); rintro e w3 ⟨rfl, hb3'⟩; have hb3 : Below U.heap.size U w3 := ⟨hb3'.os, hb3'.tape, hb3'.output, hb3'.size, hb3'.block⟩; have hL3 := HLU.out.below hb3; have k15 := H15.out.below hb3 H15.out.lt; have HS3 : Hid (w3.cell? ⟨g15, 0, none⟩ = some (.slice (a2 0) (l2 0) (c2 0)) ∧ w3.cell? ⟨g15, 1, none⟩ = some (.slice (a2 1) (l2 1) (c2 1)) ∧ w3.cell? ⟨g15, 2, none⟩ = some (.slice (a2 2) (l2 2) (c2 2)) ∧ w3.cell? ⟨g15, 3, none⟩ = some (.slice (a2 3) (l2 3) (c2 3)) ∧ w3.cell? ⟨g15, 4, none⟩ = some (.int .i64 m2.full) ∧ w3.cell? ⟨g15, 5, none⟩ = some (.int .i64 m2.long) ∧ w3.cell? ⟨g15, 6, none⟩ = some (.int .i64 m2.moved)) := Lib.hid ⟨k15.cell 0, k15.cell 1, k15.cell 2, k15.cell 3, k15.cell 4, k15.cell 5, k15.cell 6⟩; have r0 := hL3.res.cell 0; have r1 := hL3.res.cell 1; have r2 := hL3.res.cell 2; have r3 := hL3.res.cell 3; have r4 := hL3.res.cell 4; have r5 := hL3.res.cell 5; have r6 := hL3.res.cell 6; have fr := hL3.res.frozen; unfold z7 at r0 r1 r2 r3 r4 r5 r6; have HL3 := Lib.hid hL3; clear hb3 hb3' k15 hL3)))
  all_goals
    go_wp2_with fail
    refine bodyPost_ret (v := .tuple #[.agg (nvc a2 l2 c2 m2.full m2.long m2.moved), .bool true]) (by simp [results, Try.results75, go_sem, nvc, r0, r1, r2, r3, r4, r5, r6]) rfl ?_
    refine HL3.out.done ?_ rfl HMK.out
    iterate 7 (refine Touch.setCell ?_ (by simp) _)
    exact Touch.refl _ _

set_option maxRecDepth 100000 in
set_option maxHeartbeats 4000000 in
theorem do_ticks (w : World) (B n : Nat) (s : NS) (a : Nat → Option Addr) (l c : Nat → Nat) (es : Nat → List E) (m : MN) (cm : Int) (to_ by_ i bt oft : Int) (da : Option Addr) (dl dc : Nat)
    (hP : PN w B n s m) (hD : DN w (Own s n) a l c es m) (hm : MOk m cm) (hcm : cm ≤ 900000) (hB : B ≤ w.heap.size) :
    Calls Try.prog 75 #[.pointer (some ⟨n, 0, none⟩), dnv a l c m.full m.long m.moved, .agg (opv 5 to_ by_ i bt da dl dc oft)] w (DoRes w B n s (cm + 200)) := by
  obtain ⟨h0, hbx0⟩ := li_at (ov := opv 5 to_ by_ i bt da dl dc oft) hP hD
  have H0 := Lib.hid h0
  have HBX := Lib.hid hbx0
  have HM := Lib.hid hm
  clear h0 hP hD hbx0 hm
  unfold dnv nc opv
  go_enter Try.func75, Try.ntmps75
  go_wp2_with fail
  go_loopw [21] (fun iv W => ∃ (j : Nat) (m1 : MN) (s1 : NS) (a1 : Nat → Option Addr) (l1 c1 : Nat → Nat) (es1 : Nat → List E), j ≤ 10 ∧ iv = .int .i64 (j : Int) ∧ LI w B n s s1 m1 m1 a1 l1 c1 es1 (opv 5 to_ by_ i bt da dl dc oft) W ∧ MOk m1 (cm + j) ∧ Blk W w.heap.size 71 (nvc a1 l1 c1 m1.full m1.long m1.moved)) (fun iv _ => 10 - (intOf iv).toNat)
  case atStart => exact ⟨0, m, s, a, l, c, es, by omega, rfl, H0.out, by simpa using HM.out, HBX.out⟩
  case round =>
    obtain ⟨j, m1, s1, a1, l1, c1, es1, hj, rfl, hL, hm1, hbx⟩ := hrel
    have o6 : wr.cell? ⟨w.heap.size + 1, 6, none⟩ = some (.int .i64 oft) := hL.op.cell 6
    by_cases hgo : (j : Int) < oft ∧ (j : Int) < 10
    · obtain ⟨g1, g2⟩ := hgo
      have p := Lib.hid (tick_go wr B n s1 m1 (cm + j) hL.pn hm1 (by omega))
      have HL := Lib.hid hL
      have HBX1 := Lib.hid hbx
      have HM1 := Lib.hid hm1
      clear hL hbx hm1
      go_wp2_with fail
      refine p.out.mono ?_
      rintro e w2 ⟨rfl, hW⟩
      obtain ⟨s2, hL2⟩ := HL.out.prog hW
      have hbx := HBX1.out.touch (by obtain ⟨_, _, t, _⟩ := hW; exact t) (HL.out.far (by omega) (by omega))
      have b0 := hbx.cell 0; have b1 := hbx.cell 1; have b2 := hbx.cell 2; have b3 := hbx.cell 3; have b4 := hbx.cell 4; have b5 := hbx.cell 5; have b6 := hbx.cell 6
      unfold nvc at b0 b1 b2 b3 b4 b5 b6
      have pT' := rtick_any w2 (O3 w s2 n) a1 l1 c1 es1 m1 (cm + j) hL2.dn HM1.out (by omega) hL2.o3
      unfold dnv nc at pT'
      have pT := Lib.hid pT'
      have HL2 := Lib.hid hL2
      have HBX2 := Lib.hid hbx
      clear hW hL2 hbx pT' p o6
      go_wp2_with fail
      refine pT.out.mono ?_
      rintro e w3 ⟨a2, l2, c2, es2, rfl, hD3, hB3⟩
      unfold dnv nc
      have hL3 := HL2.out.doc hB3 hD3
      have hbx3 := HBX2.out.below hB3 HBX2.out.lt
      clear b0 b1 b2 b3 b4 b5 b6
      have b0 := hbx3.cell 0; have b1 := hbx3.cell 1; have b2 := hbx3.cell 2; have b3 := hbx3.cell 3; have b4 := hbx3.cell 4; have b5 := hbx3.cell 5; have b6 := hbx3.cell 6
      unfold nvc at b0 b1 b2 b3 b4 b5 b6
      have fb := hbx3.frozen
      obtain ⟨mt1, hmt1⟩ : ∃ mt1, mt1 = m1.tick := ⟨_, rfl⟩
      rw [← hmt1] at hL3 ⊢
      have hmk : MOk mt1 (cm + (j + 1 : Nat)) := by rw [hmt1]; have := HM1.out.tick; exact this.mono (by omega)
      have HMK := Lib.hid hmk
      have HL3 := Lib.hid hL3
      have HBX3 := Lib.hid hbx3
      clear hD3 hB3 hL3 hbx3 hmt1 hmk pT
      go_wp2_with fail
      go_roundw
      case rel =>
        refine ⟨j + 1, mt1, s2, a2, l2, c2, es2, by omega, by go_num, HL3.out.store ?_, HMK.out, ?_⟩
        · iterate 7 (refine Touch.setCell ?_ (by simp) _)
          exact Touch.refl _ _
        · exact ((((((HBX3.out.set_ 0 _).set_ 1 _).set_ 2 _).set_ 3 _).set_ 4 _).set_ 5 _).set_ 6 _
      case measure => simp [intOf]; omega
    · have b0 := hbx.cell 0; have b1 := hbx.cell 1; have b2 := hbx.cell 2; have b3 := hbx.cell 3; have b4 := hbx.cell 4; have b5 := hbx.cell 5; have b6 := hbx.cell 6
      unfold nvc at b0 b1 b2 b3 b4 b5 b6
      have r0 := hL.res.cell 0; have r1 := hL.res.cell 1; have r2 := hL.res.cell 2; have r3 := hL.res.cell 3; have r4 := hL.res.cell 4; have r5 := hL.res.cell 5; have r6 := hL.res.cell 6
      have fr := hL.res.frozen
      unfold z7 at r0 r1 r2 r3 r4 r5 r6
      have HL := Lib.hid hL
      have HM1 := Lib.hid (hm1.mono (show cm + j ≤ cm + 200 by omega))
      clear hL hbx hm1
      have hcase : (¬ (j : Int) < oft) ∨ ((j : Int) < oft ∧ ¬ (j : Int) < 10) := by omega
      clear hgo
      rcases hcase with q1 | ⟨q1, q2⟩
      all_goals
        go_wp2_with fail
        refine bodyPost_ret (v := .tuple #[.agg (nvc a1 l1 c1 m1.full m1.long m1.moved), .bool true]) (by simp [results, Try.results75, go_sem, nvc, r0, r1, r2, r3, r4, r5, r6]) rfl ?_
        refine HL.out.done ?_ rfl HM1.out
        iterate 7 (refine Touch.setCell ?_ (by simp) _)
        exact Touch.refl _ _
end Go.Proofs.Ytmceaffoffemlaa.Netw
