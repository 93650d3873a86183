/-
  The walk of backstaylaw21.InputqTells. No condition.
-/
import Derived.Test.YthdppaohagghbaaInputqLaw8
namespace Go.Proofs.Ythdppaohagghbaa.InputqP
open Go.RowKit Go.Sort Go.Shelf
set_option linter.all false
open Inputq (QAt fpQ TurnedQ S Ok)
open Ref21 (RAt RTo rval qv L)

/-- Both lists, the same. -/
def Two (W : World) (l : List Int) (v1 v2 : Value) (wx : World) : Prop := L wx v1 l ∧ L wx v2 l ∧ Below W.heap.size W wx

set_option maxRecDepth 100000 in
set_option maxHeartbeats 8000000 in
theorem tells_law (d : Int) (a : Option Addr) (len cap : Nat) (ops : List Op4) (kd i n o : Int) (w : World) (h : Ops4 w a len ops) (hwf : Ops4Wf ops) (hn : n ≤ 9223372036854775807) :
    Calls Try.prog 5 #[.int .i64 d, .slice a len cap, ov kd i n o] w fun e w' => e = .returned (.bool true) ∧ Below w.heap.size w w' := by
  obtain ⟨W0, hW0, hop, hB0⟩ : ∃ W0, W0 = w.alloc (.cells (oc kd i n o) 42) ∧ Blk W0 w.heap.size 42 (oc kd i n o) ∧ Below w.heap.size w W0 := ⟨_, rfl, Blk.new _ _ _, (Below.refl _ w).alloc (Nat.le_refl _) _⟩
  have hz0 : w.heap.size < W0.heap.size := hop.lt
  unfold ov oc
  unfold oc at hW0
  go_enter Try.func5, Try.ntmps5
  go_upto_region 1 with fail
  rw [← hW0]
  clear hW0
  go_wp2_with fail
  refine (Inputq.awake_any _).mono ?_
  rintro e w1 ⟨rfl, hb⟩
  go_wp2_with fail
  refine (played_any w1 d a len cap ops ((h.below hB0).below hb) hwf).mono ?_
  have hB1 : Below w.heap.size w w1 := hB0.trans (hb.mono (by omega))
  have hop1 := hop.below hb hop.lt
  have hz1 := hb.size
  rintro e w2 (⟨rfl, hb2⟩ | ⟨s, x, k, u, y, rfl, hr, hK, hU, hbo, hb2⟩)
  · dsimp only [rval, qv]
    go_wp2_with fail
    go_ret
    refine ⟨rfl, ?_⟩
    exact (hB1.trans (hb2.mono (by omega))).alloc (by have := hb2.size; omega) _
  · obtain ⟨a1, c1, b1, e1, rfl, rfl⟩ := hbo.slices
    dsimp only [rval, qv]
    have hz2 := hb2.size
    have hop2 := (hop1.below hb2 (by omega)).alloc (.cells (qc (.slice a1 y.K.length c1) (.slice b1 y.U.length e1) y) 37)
    have hbo2 := hbo.bel ((Below.refl _ w2).alloc (Nat.le_refl _) (.cells (qc (.slice a1 y.K.length c1) (.slice b1 y.U.length e1) y) 37))
    have hbx2 : QB (w2.alloc (.cells (qc (.slice a1 y.K.length c1) (.slice b1 y.U.length e1) y) 37)) w2.heap.size (.slice a1 y.K.length c1) (.slice b1 y.U.length e1) y := Blk.new _ _ _
    have hB2 : Below w.heap.size w (w2.alloc (.cells (qc (.slice a1 y.K.length c1) (.slice b1 y.U.length e1) y) 37)) := (hB1.trans (hb2.mono (by omega))).alloc (by omega) _
    have hne : w.heap.size < w2.heap.size := by omega
    obtain ⟨W3, hW3⟩ : ∃ W3, W3 = w2.alloc (.cells (qc (.slice a1 y.K.length c1) (.slice b1 y.U.length e1) y) 37) := ⟨_, rfl⟩
    have hz3 : W3.heap.size = w2.heap.size + 1 := by rw [hW3]; simp
    rw [← hW3] at hop2 hbo2 hbx2 hB2
    have ok := hr.ok (by omega) (by omega)
    have okR := hr.okR (by omega) (by omega)
    have pT := Inputq.think_any W3 s x n hbo2.q ok hn
    rw [hr.thinkV, hr.thinkK, hr.thinkE] at pT
    have pR := fun W (hW : Below W3.heap.size W3 W) => Ref21.think_any W a1 c1 (.slice b1 y.U.length e1) y.K y.fk y.fu y.last y.wrong n (hbo2.r.1.below hW) hr.k0 ⟨_, _, _, rfl⟩
    unfold qv at pR
    obtain ⟨V, hV⟩ : ∃ V, V = Ref21.thinkV y.K y.fk y.last n := ⟨_, rfl⟩
    obtain ⟨Kn, hKn⟩ : ∃ V, V = Ref21.thinkK y.K y.fk n := ⟨_, rfl⟩
    obtain ⟨E, hE⟩ : ∃ V, V = Ref21.thinkE y.fk n := ⟨_, rfl⟩
    rw [← hV, ← hKn, ← hE] at pT pR
    have pT := Lib.hid pT
    have pR := Lib.hid pR
    have hl1 : pk y.fk (y.K.drop y.fk.toNat) n o (y.K.length - y.fk.toNat) = pk x.kf x.kl n o x.kl.length := by
      rw [hr.kf, hr.kl, List.length_drop]
    have pL := fun W (hW : Below W3.heap.size W3 W) => list_any W s x n o (hbo2.bel hW).q ok
    have pM := fun W (hW : Below W3.heap.size W3 W) => rlist_any W a1 b1 c1 e1 y n o (hbo2.bel hW).r hr.k0 hr.k1 (by omega)
    rw [hl1] at pM
    have hln := pk_len x.kf x.kl n o x.kl.length
    obtain ⟨lst, hlst⟩ : ∃ lst, lst = pk x.kf x.kl n o x.kl.length := ⟨_, rfl⟩
    have o5 := ok.2.2.2.2.1
    rw [← hlst] at pL pM hln
    unfold rval qv at pM
    have pL := Lib.hid pL
    have pM := Lib.hid pM
    have pS := fun W (hW : Below W3.heap.size W3 W) => same_any W a1 b1 c1 e1 (hbo2.bel hW) hr (by omega) (by omega)
    unfold rval qv at pS
    have pS := Lib.hid pS
    clear hV hKn hE hl1 hlst hbo hop hop1 h
    obtain ⟨k0, k1, k2, k3, k4, k5⟩ := hbx2.cells
    have o2 := hop2.cell 2
    have o3 := hop2.cell 3
    dsimp only [oc] at o2 o3
    unfold qc at hW3
    go_upto_region 4 with fail
    rw [← hW3]
    have HZ3 := Lib.hid hz3
    have hz3l : w2.heap.size < W3.heap.size := by omega
    clear hW3 hz3
    go_wp2_with fail
    refine pT.out.mono ?_
    rintro e w4 ⟨rfl, nq, rfl⟩
    go_wp2_with fail
    refine (pR.out _ (below_drewN' _ _)).mono ?_
    rintro e w5 ⟨rfl, hb5⟩
    have hb5 : Below W3.heap.size W3 w5 := (below_drewN' W3 nq).trans hb5
    clear k0 k1 k2 k3 k4 k5 o2 o3
    have hop5 := hop2.below hb5 hop2.lt
    have hbx5 : QB w5 w2.heap.size _ _ y := Blk.below hbx2 hb5 (Blk.lt hbx2)
    obtain ⟨k0, k1, k2, k3, k4, k5⟩ := hbx5.cells
    have o2 := hop5.cell 2
    have o3 := hop5.cell 3
    dsimp only [oc] at o2 o3
    go_upto_region 10 with fail
    have hb5z := hb5.size
    go_cut [16, 17] (fun v1 v2 wx => Two w5 lst v1 v2 wx)
    case first =>
      go_region_held3 (fun w' => w'.cell? ⟨w2.heap.size, 0, none⟩ = some (.slice a1 y.K.length c1) ∧ w'.cell? ⟨w2.heap.size, 1, none⟩ = some (.slice b1 y.U.length e1) ∧ w'.cell? ⟨w2.heap.size, 2, none⟩ = some (.int .i64 y.fk) ∧ w'.cell? ⟨w2.heap.size, 3, none⟩ = some (.int .i64 y.fu) ∧ w'.cell? ⟨w2.heap.size, 4, none⟩ = some (.int .u16 y.last) ∧ w'.cell? ⟨w2.heap.size, 5, none⟩ = some (.int .i64 y.wrong) ∧ w'.cell? ⟨w.heap.size, 2, none⟩ = some (.int .i64 n) ∧ w'.cell? ⟨w.heap.size, 3, none⟩ = some (.int .i64 o))
        (first | go_keep | exact ⟨m0, m1, m2, m3, m4, m5, m6, m7⟩)
        (first
          | (go_at_call 23; refine (pL.out _ (by first | exact hb5.drew | exact hb5.trans (hM.mono hb5z) | exact hb5.trans (hM.mono hb5z).drew)).mono ?_; rintro e w6 ⟨v6, rfl, hl6, hb6, _⟩; have hL : Below w5.heap.size w5 w6 := (by first | exact (Below.refl _ w5).drew.trans hb6 | exact (hM.drew.trans (hb6.mono hM.size)) | exact hM.trans (hb6.mono hM.size)); have hbx6 : QB w6 w2.heap.size _ _ y := Blk.below hbx5 hL (by omega); have hop6 := hop5.below hL (by omega); obtain ⟨m0, m1, m2, m3, m4, m5⟩ := hbx6.cells; have m6 := hop6.cell 2; have m7 := hop6.cell 3; dsimp only [oc] at m6 m7)
          | (go_at_call 24; refine (pM.out _ (by first | exact hb5.drew | exact hb5.trans (hL.mono hb5z) | exact hb5.trans (hL.mono hb5z).drew)).mono ?_; rintro e w7 ⟨v7, rfl, hl7, hb7, _⟩; have hM : Below w5.heap.size w5 w7 := (by first | exact (Below.refl _ w5).drew.trans hb7 | exact (hL.drew.trans (hb7.mono hL.size)) | exact hL.trans (hb7.mono hL.size)); have hbx7 : QB w7 w2.heap.size _ _ y := Blk.below hbx5 hM (by omega); have hop7 := hop5.below hM (by omega); obtain ⟨m0, m1, m2, m3, m4, m5⟩ := hbx7.cells; have m6 := hop7.cell 2; have m7 := hop7.cell 3; dsimp only [oc] at m6 m7))
      all_goals
        go_wp2_with fail
        go_meet
        first
          | exact ⟨hl6.below hb7, hl7, hM⟩
          | exact ⟨hl6, hl7.below hb6, hL⟩
    case rest =>
      obtain ⟨hl1, hl2, hbc⟩ := hcut
      have hbw : Below W3.heap.size W3 wc := hb5.trans (hbc.mono hb5z)
      have hbxc : QB wc w2.heap.size _ _ y := Blk.below hbx2 hbw (Blk.lt hbx2)
      clear k0 k1 k2 k3 k4 k5 o2 o3 pT pR pL pM hbx5 hop5
      obtain ⟨ax, cx, rfl, hcx, hmx⟩ := hl1.slice
      obtain ⟨ay, cy, rfl, hcy, hmy⟩ := hl2.slice
      go_wp2_with fail
      go_loopw [18] (fun iv wr => ∃ j : Nat, j ≤ lst.length ∧ iv = .int .i64 j ∧ ∃ nn, wr = wc.drewN nn) (fun iv _ => lst.length - (intOf iv).toNat)
      case atStart => exact ⟨0, Nat.zero_le _, rfl, 0, rfl⟩
      case round =>
        obtain ⟨j, hj, rfl, nn, rfl⟩ := hrel
        by_cases hlt : j < lst.length
        · obtain ⟨g1, cp1, e1', hg1⟩ := hl1.ints (by omega)
          cases e1'
          obtain ⟨g2, cp2, e2', hg2⟩ := hl2.ints (by omega)
          cases e2'
          have r1 := hg1 j hlt
          have r2 := hg2 j hlt
          have i1 : (0 : Int) ≤ (j : Int) := by omega
          have i2 : (j : Int) < (lst.length : Int) := by omega
          clear hg1 hg2
          generalize nth lst j = vv at r1 r2
          go_wp2_with fail
          go_quiet (fail)
          go_wp2_with fail
          go_roundw
          case rel => exact ⟨j + 1, by omega, by go_num, _, rfl⟩
          case measure => simp [intOf]; omega
        · obtain rfl : j = lst.length := by omega
          obtain ⟨k0, k1, k2, k3, k4, k5⟩ := hbxc.cells
          go_wp2_with fail
          refine (pS.out _ (below_drewN hbw _)).mono ?_
          rintro e w9 ⟨rfl, hb9⟩
          go_wp2_with fail
          go_ret
          have hwz := hbw.size
          refine ⟨rfl, ((hB2.trans (hbw.mono (by omega))).trans ((below_drewN' wc nn).mono (by omega))).trans (hb9.mono (show w.heap.size ≤ wc.heap.size by omega))⟩
end Go.Proofs.Ythdppaohagghbaa.InputqP
