/-
  backstaylaw29.do: Send several times; all calls. Conditions: numbers without overflow.
-/
import Derived.Test.YtmceaffoffemlaaNetX
namespace Go.Proofs.Ytmceaffoffemlaa.Netw
open Go.RowKit
set_option linter.all false

theorem LI.prog' {w W W2 : World} {B n : Nat} {s s' s2 : NS} {mp md mp2 : MN} {a : Nat → Option Addr} {l c : Nat → Nat} {es : Nat → List E} {ov : Array Value} (h : LI w B n s s' mp md a l c es ov W) (hP : PN W2 B n s2 mp2) (hT : Touch (Own s' n) W W2) (hO : ∀ g, Own s2 n g → Own s' n g ∨ W.heap.size ≤ g) : LI w B n s s2 mp2 md a l c es ov W2 := by
  have hz := h.size
  refine ⟨hP, ?_, h.op.touch hT (h.far (by omega) (by omega)), h.res.touch hT (h.far (by omega) (by omega)), ?_, fun g hg => (hO g hg).elim (h.out g) (fun e => .inr (by omega)), h.own⟩
  · exact h.dn.go (hT.mono fun g hg => .inl (.inl hg)) (fun g hg => hg.elim (fun q => (hO g q).imp .inl id) (fun q => .inl (.inr q)))
  · exact h.touch.trans hT (fun k hk => (h.out k hk).imp id (fun e => by omega))
set_option maxRecDepth 100000 in
set_option maxHeartbeats 4000000 in
theorem do_sends (w : World) (B n : Nat) (s : NS) (a : Nat → Option Addr) (l c : Nat → Nat) (es : Nat → List E) (m : MN) (cm : Int) (to_ by_ i bt oft : Int) (da : Option Addr) (dl dc : Nat) (bs : List Int)
    (hP : PN w B n s m) (hD : DN w (Own s n) a l c es m) (hm : MOk m cm) (hcm : cm ≤ 900000) (hB : B ≤ w.heap.size) (hr : Rd w (Own s n) da dl bs) (hdl : dl ≤ 3000) :
    Calls Try.prog 75 #[.pointer (some ⟨n, 0, none⟩), dnv a l c m.full m.long m.moved, .agg (opv 6 to_ by_ i bt da dl dc oft)] w (DoRes w B n s (cm + 200)) := by
  obtain ⟨h0, hbx0⟩ := li_at (ov := opv 6 to_ by_ i bt da dl dc oft) hP hD
  have H0 := Lib.hid h0
  have HBX := Lib.hid hbx0
  have HM := Lib.hid hm
  have hr0 : Rd (((w.alloc (.cells (nvc a l c m.full m.long m.moved) 71)).alloc (.cells (opv 6 to_ by_ i bt da dl dc oft) 122)).alloc (.cells z7 71)) (O3 w s n) da dl bs :=
    (hr.go (Touch.refl _ _) (fun g hg => hg.imp id (fun e => by omega))).below ((((Below.refl _ w).alloc (Nat.le_refl _) _).alloc (by simp) _).alloc (by simp; omega) _)
  have HR := Lib.hid hr0
  clear h0 hP hD hbx0 hm hr hr0
  unfold dnv nc opv
  go_enter Try.func75, Try.ntmps75
  go_wp2_with fail
  go_loopw [22] (fun iv W => ∃ (j : Nat) (m1 : MN) (s1 : NS) (a1 : Nat → Option Addr) (l1 c1 : Nat → Nat) (es1 : Nat → List E), j ≤ 140 ∧ iv = .int .i64 (j : Int) ∧ LI w B n s s1 m1 m1 a1 l1 c1 es1 (opv 6 to_ by_ i bt da dl dc oft) W ∧ MOk m1 (cm + j) ∧ Blk W w.heap.size 71 (nvc a1 l1 c1 m1.full m1.long m1.moved) ∧ Rd W (O3 w s1 n) da dl bs) (fun iv _ => 140 - (intOf iv).toNat)
  case atStart => exact ⟨0, m, s, a, l, c, es, by omega, rfl, H0.out, by simpa using HM.out, HBX.out, HR.out⟩
  case round =>
    obtain ⟨j, m1, s1, a1, l1, c1, es1, hj, rfl, hL, hm1, hbx, hrd⟩ := hrel
    have o6 : wr.cell? ⟨w.heap.size + 1, 6, none⟩ = some (.int .i64 oft) := hL.op.cell 6
    have b0 := hbx.cell 0; have b1 := hbx.cell 1; have b2 := hbx.cell 2; have b3 := hbx.cell 3; have b4 := hbx.cell 4; have b5 := hbx.cell 5; have b6 := hbx.cell 6
    unfold nvc at b0 b1 b2 b3 b4 b5 b6
    by_cases hgo : (j : Int) < oft ∧ (j : Int) < 140
    · obtain ⟨g1, g2⟩ := hgo
      have o1 : wr.cell? ⟨w.heap.size + 1, 1, none⟩ = some (.int .i64 to_) := hL.op.cell 1
      have o2 : wr.cell? ⟨w.heap.size + 1, 2, none⟩ = some (.int .i64 by_) := hL.op.cell 2
      have o5 : wr.cell? ⟨w.heap.size + 1, 5, none⟩ = some (.slice da dl dc) := hL.op.cell 5
      have pR' := rsend_any wr (O3 w s1 n) a1 l1 c1 es1 m1 (cm + j) to_ by_ da dl dc bs hL.dn hm1 (by omega) (by rw [hrd.1]; exact hrd) hrd.1 hL.o3
      unfold dnv nc at pR'
      have pR := Lib.hid pR'
      have HL := Lib.hid hL
      have HBX1 := Lib.hid hbx
      have HM1 := Lib.hid hm1
      have HRD := Lib.hid hrd
      clear hL hbx hm1 hrd pR'
      go_wp2_with fail
      refine pR.out.mono ?_
      rintro e w2 ⟨a2, l2, c2, es2, rfl, hD2, hB2⟩
      unfold dnv nc
      clear o1 o2 o5 o6 b0 b1 b2 b3 b4 b5 b6
      obtain ⟨m2, hm2⟩ : ∃ m2, m2 = (m1.send to_ by_ bs).1 := ⟨_, rfl⟩
      obtain ⟨q2, hq2⟩ : ∃ q2, q2 = (m1.send to_ by_ bs).2 := ⟨_, rfl⟩
      rw [← hm2, ← hq2]
      rw [← hm2] at hD2
      have hBU2 : Below w2.heap.size w2 (w2.alloc (.cells (nvc a2 l2 c2 m2.full m2.long m2.moved) 71)) := (Below.refl _ _).alloc (Nat.le_refl _) _
      have hLU := (HL.out.doc hB2 hD2).below hBU2
      have hrU := (HRD.out.below hB2).below hBU2
      have hbU := (HBX1.out.below hB2 HBX1.out.lt).alloc (.cells (nvc a2 l2 c2 m2.full m2.long m2.moved) 71)
      have hz2 : w.heap.size + 3 ≤ w2.heap.size := Nat.le_trans HL.out.size hB2.size
      have hnew := Blk.new w2 71 (nvc a2 l2 c2 m2.full m2.long m2.moved)
      unfold nvc at hLU hrU hnew hbU
      have o1 : w2.cell? ⟨w.heap.size + 1, 1, none⟩ = some (.int .i64 to_) := (HL.out.op.below hB2 HL.out.op.lt).cell 1
      have o2 : w2.cell? ⟨w.heap.size + 1, 2, none⟩ = some (.int .i64 by_) := (HL.out.op.below hB2 HL.out.op.lt).cell 2
      have o5 : w2.cell? ⟨w.heap.size + 1, 5, none⟩ = some (.slice da dl dc) := (HL.out.op.below hB2 HL.out.op.lt).cell 5
      have hn1 : w.heap.size + 1 < w2.heap.size := by omega
      have hn2 : ¬ w.heap.size + 1 = w2.heap.size := by omega
      have pS' := send_any _ B n s1 m1 (cm + j) to_ by_ da dl dc bs hLU.pn HM1.out (by omega) (by have := hLU.size; simp at this; simp; omega) hrU.1 (fun W' hb => row_src (hrU.below hb).row)
      have pS : Hid (Calls Try.prog 12 #[.pointer (some ⟨n, 0, none⟩), .int .i64 to_, .int .i64 by_, .slice da dl dc] _ (fun e W => e = .returned (.int .i64 q2) ∧ Went _ B n s1 m2 W)) := Lib.hid (by rw [hm2, hq2]; exact pS')
      have hmk : MOk m2 (cm + (j + 1 : Nat)) := by rw [hm2]; exact (HM1.out.send to_ by_ bs).mono (by omega)
      have HMK := Lib.hid hmk
      have HLU := Lib.hid hLU
      have HRU := Lib.hid hrU
      have HBU := Lib.hid hbU
      have HNEW := Lib.hid hnew
      have HZ2 := Lib.hid hz2
      have HS2 := Lib.hid hB2.size
      clear hD2 hB2 hBU2 hLU hrU hbU hnew hz2 pS' hmk hm2 hq2 pR
      go_wp2_with fail
      refine pS.out.mono ?_
      rintro e w3 ⟨rfl, hW⟩
      obtain ⟨s3, hP3', hT3, hO3⟩ := hW
      have hL3 := HLU.out.prog' hP3' hT3 hO3
      obtain ⟨g23, hg23⟩ : ∃ g, g = w2.heap.size := ⟨_, rfl⟩
      have hbx3 := HBU.out.touch hT3 (HLU.out.far (by omega) (by omega))
      have hnw3 := HNEW.out.touch hT3 (fun e => by have := HL.out.pn.own_lt _ e; have := HS2.out; omega)
      have hr3 : Rd w3 (O3 w s3 n) da dl bs := HRU.out.go (hT3.mono fun g hg => .inl (.inl hg)) (fun g hg => hg.elim (fun q => (hO3 g q).imp .inl id) (fun q => .inl (.inr q)))
      rw [← hg23] at hnw3 ⊢
      have b0 := hnw3.cell 0; have b1 := hnw3.cell 1; have b2 := hnw3.cell 2; have b3 := hnw3.cell 3; have b4 := hnw3.cell 4; have b5 := hnw3.cell 5; have b6 := hnw3.cell 6
      have y0 := hbx3.cell 0; have y1 := hbx3.cell 1; have y2 := hbx3.cell 2; have y3 := hbx3.cell 3; have y4 := hbx3.cell 4; have y5 := hbx3.cell 5; have y6 := hbx3.cell 6
      have fb := hbx3.frozen
      have ne1 : ¬ g23 = w.heap.size := by have := HZ2.out; omega
      have ne2 : ¬ w.heap.size = g23 := by have := HZ2.out; omega
      have HL3 := Lib.hid hL3
      have HR3 := Lib.hid hr3
      have HB3 := Lib.hid hbx3
      clear hL3 hr3 hbx3 hnw3 hP3' hT3 hO3 hg23 pS o1 o2 o5
      go_wp2_with fail
      go_roundw
      case rel =>
        have hfin : ∀ W, Touch (fun g => g = w.heap.size) w3 W → LI w B n s s3 m2 m2 a2 l2 c2 es2 (opv 6 to_ by_ i bt da dl dc oft) W ∧ Rd W (O3 w s3 n) da dl bs := fun W hT => ⟨HL3.out.store hT, HR3.out.go (hT.mono fun g hg => .inl (.inr (.inl hg))) (fun g hg => .inl hg)⟩
        refine ⟨j + 1, m2, s3, a2, l2, c2, es2, by omega, by go_num, (hfin _ ?_).1, HMK.out, ((((((HB3.out.set_ 0 _).set_ 1 _).set_ 2 _).set_ 3 _).set_ 4 _).set_ 5 _).set_ 6 _, (hfin _ ?_).2⟩
        all_goals
          iterate 7 (refine Touch.setCell ?_ (by simp) _)
          exact Touch.refl _ _
      case measure => simp [intOf]; omega
    · have r0 := hL.res.cell 0; have r1 := hL.res.cell 1; have r2 := hL.res.cell 2; have r3 := hL.res.cell 3; have r4 := hL.res.cell 4; have r5 := hL.res.cell 5; have r6 := hL.res.cell 6
      have fr := hL.res.frozen
      unfold z7 at r0 r1 r2 r3 r4 r5 r6
      have HL := Lib.hid hL
      have HM1 := Lib.hid (hm1.mono (show cm + j ≤ cm + 200 by omega))
      clear hL hbx hm1 hrd
      have hcase : (¬ (j : Int) < oft) ∨ ((j : Int) < oft ∧ ¬ (j : Int) < 140) := by omega
      clear hgo
      rcases hcase with q1 | ⟨q1, q2⟩
      all_goals
        go_wp2_with fail
        refine bodyPost_ret (v := .tuple #[.agg (nvc a1 l1 c1 m1.full m1.long m1.moved), .bool true]) (by simp [results, Try.results75, go_sem, nvc, r0, r1, r2, r3, r4, r5, r6]) rfl ?_
        refine HL.out.done ?_ rfl HM1.out
        iterate 7 (refine Touch.setCell ?_ (by simp) _)
        exact Touch.refl _ _
theorem do_any (w : World) (B n : Nat) (s : NS) (a : Nat → Option Addr) (l c : Nat → Nat) (es : Nat → List E) (m : MN) (cm : Int) (kd to_ by_ i bt oft : Int) (da : Option Addr) (dl dc : Nat) (bs : List Int)
    (hP : PN w B n s m) (hD : DN w (Own s n) a l c es m) (hm : MOk m cm) (hcm : cm ≤ 900000) (hB : B ≤ w.heap.size) (hr : Rd w (Own s n) da dl bs) (hdl : dl ≤ 3000) (hi : -9223372036854775808 ≤ i ∧ i ≤ 9223372036854775807) :
    Calls Try.prog 75 #[.pointer (some ⟨n, 0, none⟩), dnv a l c m.full m.long m.moved, .agg (opv kd to_ by_ i bt da dl dc oft)] w (DoRes w B n s (cm + 200)) := by
  by_cases h0 : kd = 0
  · subst h0; exact do_send w B n s a l c es m cm to_ by_ i bt oft da dl dc bs hP hD hm hcm hB hr hdl
  by_cases h1 : kd = 1
  · subst h1; exact do_move w B n s a l c es m cm to_ by_ i bt oft da dl dc hP hD hm hcm hB hi
  by_cases h2 : kd = 2
  · subst h2; exact do_drop w B n s a l c es m cm to_ by_ i bt oft da dl dc hP hD hm hcm hB hi
  by_cases h3 : kd = 3
  · subst h3; exact do_double w B n s a l c es m cm to_ by_ i bt oft da dl dc hP hD hm hcm hB hi
  by_cases h4 : kd = 4
  · subst h4; exact do_spoil w B n s a l c es m cm to_ by_ i bt oft da dl dc hP hD hm hcm hB hi
  by_cases h5 : kd = 5
  · subst h5; exact do_ticks w B n s a l c es m cm to_ by_ i bt oft da dl dc hP hD hm hcm hB
  by_cases h6 : kd = 6
  · subst h6; exact do_sends w B n s a l c es m cm to_ by_ i bt oft da dl dc bs hP hD hm hcm hB hr hdl
  exact do_else w B n s a l c es m cm kd to_ by_ i bt oft da dl dc hP hD hm (by simpa using h0) (by simpa using h1) (by simpa using h2) (by simpa using h3) (by simpa using h4) (by simpa using h5) (by simpa using h6)
end Go.Proofs.Ytmceaffoffemlaa.Netw
