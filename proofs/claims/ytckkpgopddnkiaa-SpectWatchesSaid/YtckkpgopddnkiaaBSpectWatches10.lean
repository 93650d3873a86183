/-
  Texts joined: Rmv, StoreR, NetG, Gsums, RingE, RingEB. No condition.
-/
import Derived.Test.YtckkpgopddnkiaaBSpectWatches9
import Derived.Deep.Cut
import Derived.Deep.CutBlock
import Derived.Deep.DeepCutAuto
import Derived.Deep.RegionHeld3
import Derived.Test.YtckkpgopddnkiaaProg
namespace Go.Proofs.Ytckkpgopddnkiaa.Gm
open Go.RowKit Go.Proofs.Ytckkpgopddnkiaa.Num
set_option linter.all false

/-- A block of one body. -/
def MB (w : World) (g : Nat) (b : Body) : Prop := Blk w g 46 (bodL b).toArray
section
variable {w w' : World} {g : Nat} {b : Body}
theorem MB.at_ (h : MB w g b) {j : Nat} {v : Value} (e : (bodL b)[j]? = some v) : w.cell? ⟨g, j, none⟩ = some v := by
  rw [Blk.cell h j, List.getElem?_toArray, e]
theorem MB.cells (h : MB w g b) : BodyAt w g 0 b :=
  ⟨h.at_ (j := 0) rfl, by simpa using h.at_ (j := 1) rfl, by simpa using h.at_ (j := 2) rfl, by simpa using h.at_ (j := 3) rfl, by simpa using h.at_ (j := 4) rfl, by simpa using h.at_ (j := 5) rfl, by simpa using h.at_ (j := 6) rfl, fun j => Blk.frozen h j⟩
theorem MB.c0 (h : MB w g b) : w.cell? ⟨g, 0, none⟩ = some (.int .i64 b.x) := h.at_ (j := 0) rfl
theorem MB.c1 (h : MB w g b) : w.cell? ⟨g, 1, none⟩ = some (.int .i64 b.y) := h.at_ (j := 1) rfl
theorem MB.c2 (h : MB w g b) : w.cell? ⟨g, 2, none⟩ = some (.int .i64 b.vx) := h.at_ (j := 2) rfl
theorem MB.c3 (h : MB w g b) : w.cell? ⟨g, 3, none⟩ = some (.int .i64 b.vy) := h.at_ (j := 3) rfl
theorem MB.c4 (h : MB w g b) : w.cell? ⟨g, 4, none⟩ = some (.int .i64 b.life) := h.at_ (j := 4) rfl
theorem MB.c5 (h : MB w g b) : w.cell? ⟨g, 5, none⟩ = some (.int .i64 b.cool) := h.at_ (j := 5) rfl
theorem MB.c6 (h : MB w g b) : w.cell? ⟨g, 6, none⟩ = some (.int .i64 b.facing) := h.at_ (j := 6) rfl
theorem MB.fz (h : MB w g b) (j : Nat) : w.frozen? ⟨g, j, none⟩ = false := Blk.frozen h j
theorem MB.below {B : Nat} (h : MB w g b) (hb : Below B w w') (hg : g < B) : MB w' g b := Blk.below h hb hg
theorem MB.drew (h : MB w g b) : MB w.drew g b := h
theorem MB.x (h : MB w g b) (z : Int) : MB (w.setCell ⟨g, 0, none⟩ (.int .i64 z)) g { b with x := z } := Blk.set_ h 0 _
theorem MB.y (h : MB w g b) (z : Int) : MB (w.setCell ⟨g, 1, none⟩ (.int .i64 z)) g { b with y := z } := Blk.set_ h 1 _
theorem MB.vx (h : MB w g b) (z : Int) : MB (w.setCell ⟨g, 2, none⟩ (.int .i64 z)) g { b with vx := z } := Blk.set_ h 2 _
theorem MB.vy (h : MB w g b) (z : Int) : MB (w.setCell ⟨g, 3, none⟩ (.int .i64 z)) g { b with vy := z } := Blk.set_ h 3 _
theorem MB.life (h : MB w g b) (z : Int) : MB (w.setCell ⟨g, 4, none⟩ (.int .i64 z)) g { b with life := z } := Blk.set_ h 4 _
theorem MB.cool (h : MB w g b) (z : Int) : MB (w.setCell ⟨g, 5, none⟩ (.int .i64 z)) g { b with cool := z } := Blk.set_ h 5 _
theorem MB.facing (h : MB w g b) (z : Int) : MB (w.setCell ⟨g, 6, none⟩ (.int .i64 z)) g { b with facing := z } := Blk.set_ h 6 _
theorem MB.new (w : World) (b : Body) : MB (w.alloc (.cells (bodL b).toArray 46)) w.heap.size b := Blk.new _ _ _
theorem MB.alloc (h : MB w g b) (o : Obj) : MB (w.alloc o) g b := Blk.alloc h o
end

set_option maxRecDepth 100000 in
set_option maxHeartbeats 4000000 in
theorem rmove_any (w : World) (n : Nat) (b : Body) (hn : n < 65536) (hb : BodyOk b) :
    Calls Try.prog 75 #[bodV b, .int .u16 n] w fun e w' => e = .returned (bodV (moveB b n)) ∧ Below w.heap.size w w' := by
  have p1 := Lib.hid (fun w => has_any w n 1 hn (by omega) (by omega))
  have p2 := Lib.hid (fun w => has_any w n 2 hn (by omega) (by omega))
  have p4 := Lib.hid (fun w => has_any w n 4 hn (by omega) (by omega))
  obtain ⟨cs, hcs, hv⟩ : ∃ cs, cs = (bodL b).toArray ∧ bodV b = .agg cs := ⟨_, rfl, rfl⟩
  rw [hv]
  obtain ⟨W1, hW1⟩ : ∃ W1, W1 = (w.alloc (.cells cs 46)).alloc (.cells #[.int .i64 0, .int .i64 0, .int .i64 0, .int .i64 0, .int .i64 0, .int .i64 0, .int .i64 0] 46) := ⟨_, rfl⟩
  have hM : MB W1 w.heap.size b := by rw [hW1, hcs]; exact (MB.new w b).alloc _
  have hR : MB W1 (w.heap.size + 1) ⟨0, 0, 0, 0, 0, 0, 0⟩ := by
    rw [hW1]
    have := MB.new (w.alloc (.cells cs 46)) ⟨0, 0, 0, 0, 0, 0, 0⟩
    simpa [bodL] using this
  have hB : Below w.heap.size w W1 := by rw [hW1]; exact ((Below.refl _ _).alloc (Nat.le_refl _) _).alloc (by simp) _
  clear hcs hv
  have HM := Lib.hid hM
  have HR := Lib.hid hR
  have HB := Lib.hid hB
  clear hM hR hB
  go_enter Try.func75, Try.ntmps75
  go_upto_region 1 with fail
  rw [← hW1]
  clear hW1
  go_wp2_with fail
  refine (p1.out _).mono ?_
  rintro e w2 ⟨rfl, rfl⟩
  go_wp2_with fail
  refine (p2.out _).mono ?_
  rintro e w2 ⟨rfl, rfl⟩
  go_upto_if 14 with fail
  go_cut [5, 6] (fun v5 v6 wx => MB wx w.heap.size (walkB b n) ∧ MB wx (w.heap.size + 1) ⟨0, 0, 0, 0, 0, 0, 0⟩ ∧ Below w.heap.size w wx)
  case first =>
    have c2 := HM.out.c2
    have c6 := HM.out.c6
    have x2 := HM.out.fz 2
    have x6 := HM.out.fz 6
    have hv0 := hb.vx0
    have hv1 := hb.vx1
    by_cases h1 : n % 2 = n / 2 % 2
    · have E := Lib.hid (show walkB b n = { b with vx := mulV b.vx } by unfold walkB; rw [if_pos h1])
      have e : (decide (n % 2 = 1) == decide (n / 2 % 2 = 1)) = true := by rw [h1]; simp
      rw [e]
      have pM := Lib.hid (fun w => rmul_any w b.vx hv0 hv1)
      generalize mulV b.vx = q at *
      clear e h1
      go_wp2_with fail
      refine (pM.out _).mono ?_
      rintro e w2 ⟨rfl, bm⟩
      have M2 := HM.out.below bm (Blk.lt HM.out)
      have d2 := M2.c2
      have f2 := M2.fz 2
      have R2 := HR.out.below bm (Blk.lt HR.out)
      have B2 := HB.out.trans (bm.mono HB.out.size)
      go_wp2_with fail
      go_meet
      exact ⟨by rw [E.out]; exact M2.vx _, Blk.far R2 (by simp) _, B2.setCell (by simp) _⟩
    · have hz : (n % 2 = 1 ∧ n / 2 % 2 = 0) ∨ (n % 2 = 0 ∧ n / 2 % 2 = 1) := by omega
      have hh0 := hold_bd (b.vx + -16384)
      have hh1 := hold_bd (b.vx + 16384)
      rcases hz with ⟨h, h'⟩ | ⟨h, h'⟩
      · have E := Lib.hid (show walkB b n = { b with facing := -1, vx := clampV (hold (b.vx + -16384)) (-196608) 196608 } by unfold walkB; rw [if_neg h1, if_pos h])
        have e1 : decide (n % 2 = 1) = true := by rw [h]; rfl
        have e2 : decide (n / 2 % 2 = 1) = false := by rw [h']; rfl
        rw [e1, e2]
        have pA := Lib.hid (fun w => Num.add_any w b.vx (-16384) (by omega) (by omega) (by omega) (by omega))
        generalize hold (b.vx + -16384) = q at *
        have pC := Lib.hid (fun w => rclamp_any w q (-196608) 196608 (by omega))
        clear e1 e2 h h' h1
        go_wp2_with fail
        have M1 := (HM.out.facing 1).facing (-1)
        have R1 := Blk.far (Blk.far HR.out (p := ⟨w.heap.size, 6, none⟩) (by simp) (.int .i64 1)) (p := ⟨w.heap.size, 6, none⟩) (by simp) (.int .i64 (-1))
        have B1 := (HB.out.setCell (p := ⟨w.heap.size, 6, none⟩) (by simp) (.int .i64 1)).setCell (p := ⟨w.heap.size, 6, none⟩) (by simp) (.int .i64 (-1))
        refine (pA.out _).mono ?_
        rintro e w2 ⟨rfl, bm⟩
        have M2 := M1.below bm (Blk.lt M1)
        have d2 := M2.c2
        have f2 := M2.fz 2
        have R2 := R1.below bm (Blk.lt R1)
        have B2 := B1.trans (bm.mono B1.size)
        go_wp2_with fail
        refine (pC.out _).mono ?_
        rintro e w3 ⟨rfl, rfl⟩
        go_wp2_with fail
        go_meet
        exact ⟨by rw [E.out]; exact M2.vx _, Blk.far R2 (by simp) _, B2.setCell (by simp) _⟩
      · have E := Lib.hid (show walkB b n = { b with facing := 1, vx := clampV (hold (b.vx + 16384)) (-196608) 196608 } by unfold walkB; rw [if_neg h1, if_neg (by omega)])
        have e1 : decide (n % 2 = 1) = false := by rw [h]; rfl
        have e2 : decide (n / 2 % 2 = 1) = true := by rw [h']; rfl
        rw [e1, e2]
        have pA := Lib.hid (fun w => Num.add_any w b.vx 16384 (by omega) (by omega) (by omega) (by omega))
        generalize hold (b.vx + 16384) = q at *
        have pC := Lib.hid (fun w => rclamp_any w q (-196608) 196608 (by omega))
        clear e1 e2 h h' h1
        go_wp2_with fail
        have M1 := HM.out.facing 1
        have R1 := Blk.far HR.out (p := ⟨w.heap.size, 6, none⟩) (by simp) (.int .i64 1)
        have B1 := HB.out.setCell (p := ⟨w.heap.size, 6, none⟩) (by simp) (.int .i64 1)
        refine (pA.out _).mono ?_
        rintro e w2 ⟨rfl, bm⟩
        have M2 := M1.below bm (Blk.lt M1)
        have d2 := M2.c2
        have f2 := M2.fz 2
        have R2 := R1.below bm (Blk.lt R1)
        have B2 := B1.trans (bm.mono B1.size)
        go_wp2_with fail
        refine (pC.out _).mono ?_
        rintro e w3 ⟨rfl, rfl⟩
        go_wp2_with fail
        go_meet
        exact ⟨by rw [E.out]; exact M2.vx _, Blk.far R2 (by simp) _, B2.setCell (by simp) _⟩
  case rest =>
    obtain ⟨M1, R1, B1⟩ := hcut
    have HM := Lib.hid M1
    have HR := Lib.hid R1
    have HB := Lib.hid B1
    clear M1 R1 B1
    have hb1 := walkB_ok hb n
    have HMB := Lib.hid (show moveB b n = slideB (fallB (walkB b n) n) from rfl)
    clear p1 p2
    generalize walkB b n = b1 at *
    have c1 := HM.out.c1
    go_upto_region 8 with fail
    go_cut [36] (fun v wx => v = .bool (decide (n / 4 % 2 = 1 ∧ b1.y = 0)) ∧ MB wx w.heap.size b1 ∧ MB wx (w.heap.size + 1) ⟨0, 0, 0, 0, 0, 0, 0⟩ ∧ Below w.heap.size w wx)
    case first =>
      by_cases h4 : n / 4 % 2 = 1
      · have e4 : decide (n / 4 % 2 = 1) = true := by rw [h4]; rfl
        rw [e4] at p4
        have E := Lib.hid (show Value.bool (b1.y == 0) = .bool (decide (n / 4 % 2 = 1 ∧ b1.y = 0)) by
          by_cases hy : b1.y = 0
          · simp [h4, hy]
          · simp [h4, hy])
        generalize decide (n / 4 % 2 = 1 ∧ b1.y = 0) = dd at *
        clear e4 h4
        go_wp2_with fail
        refine (p4.out _).mono ?_
        rintro e w2 ⟨rfl, rfl⟩
        go_wp2_with fail
        go_meet
        exact ⟨E.out, HM.out, HR.out, HB.out⟩
      · have e4 : decide (n / 4 % 2 = 1) = false := by simpa using h4
        rw [e4] at p4
        have E := Lib.hid (show Value.bool false = .bool (decide (n / 4 % 2 = 1 ∧ b1.y = 0)) by simp [h4])
        generalize decide (n / 4 % 2 = 1 ∧ b1.y = 0) = dd at *
        clear e4 h4
        go_wp2_with fail
        refine (p4.out _).mono ?_
        rintro e w2 ⟨rfl, rfl⟩
        go_wp2_with fail
        go_meet
        exact ⟨E.out, HM.out, HR.out, HB.out⟩
    case rest =>
      obtain ⟨rfl, M1, R1, B1⟩ := hcut
      clear HM HR HB p4
      have HM := Lib.hid M1
      have HR := Lib.hid R1
      have HB := Lib.hid B1
      have c3 := M1.c3
      have f3 := M1.fz 3
      clear M1 R1 B1 c1
      go_upto_if 36 with fail
      go_cut [36] (fun v36 wx => MB wx w.heap.size { b1 with vy := jumpV b1 n } ∧ MB wx (w.heap.size + 1) ⟨0, 0, 0, 0, 0, 0, 0⟩ ∧ Below w.heap.size w wx)
      case first =>
        by_cases hj : n / 4 % 2 = 1 ∧ b1.y = 0
        · have E := Lib.hid (show jumpV b1 n = 327680 by unfold jumpV; rw [if_pos hj])
          have e : decide (n / 4 % 2 = 1 ∧ b1.y = 0) = true := by simpa using hj
          rw [e]
          clear hj e
          go_wp2_with fail
          go_meet
          exact ⟨by rw [E.out]; exact HM.out.vy 327680, Blk.far HR.out (by simp) _, HB.out.setCell (by simp) _⟩
        · have E := Lib.hid (show jumpV b1 n = b1.vy by unfold jumpV; rw [if_neg hj])
          have e : decide (n / 4 % 2 = 1 ∧ b1.y = 0) = false := by simpa using hj
          rw [e]
          clear hj e
          go_wp2_with fail
          go_meet
          exact ⟨by rw [E.out]; exact HM.out, HR.out, HB.out⟩
      case rest =>
        obtain ⟨M1, R1, B1⟩ := hcut
        clear HM HR HB c3 f3
        have HM := Lib.hid M1
        have HR := Lib.hid R1
        have HB := Lib.hid B1
        have c1 := M1.c1
        have c3 := M1.c3
        clear M1 R1 B1
        dsimp only at c1 c3
        have HD : ∃ q, q = dropV b1 n := ⟨_, rfl⟩
        have hj := jumpV_in hb1 n
        have hdv := dropV_in hb1 n
        have ED := Lib.hid (show dropV b1 n = if 0 < b1.y ∨ jumpV b1 n ≠ 0 then hold (jumpV b1 n - 21845) else jumpV b1 n from rfl)
        have EF := Lib.hid (show fallB b1 n = if hold (b1.y + dropV b1 n) ≤ 0 then { b1 with y := 0, vy := 0 } else { b1 with y := hold (b1.y + dropV b1 n), vy := dropV b1 n } from rfl)
        clear HD
        have hfb := fallB_ok hb1 n
        generalize fallB b1 n = fb at *
        generalize dropV b1 n = dv at *
        generalize jumpV b1 n = jv at *
        go_upto_region 10 with fail
        go_cut [45] (fun v wx => v = .bool (decide (0 < b1.y ∨ jv ≠ 0)) ∧ wx = wc)
        case first =>
          by_cases hy : 0 < b1.y
          · have e : (Value.bool true) = .bool (decide (0 < b1.y ∨ jv ≠ 0)) := by simp [hy]
            have E := Lib.hid e
            generalize decide (0 < b1.y ∨ jv ≠ 0) = dd at *
            clear e
            go_wp2_with fail
            go_meet
            exact ⟨E.out, rfl⟩
          · by_cases hz : jv = 0
            · have hz' : (jv == 0) = true := by simpa using hz
              have e : (Value.bool (jv != 0)) = .bool (decide (0 < b1.y ∨ jv ≠ 0)) := by simp [hy, hz]
              have E := Lib.hid e
              generalize decide (0 < b1.y ∨ jv ≠ 0) = dd at *
              clear e hz
              go_wp2_with fail
              go_meet
              exact ⟨E.out, rfl⟩
            · have hz' : (jv == 0) = false := by simpa using hz
              have e : (Value.bool (jv != 0)) = .bool (decide (0 < b1.y ∨ jv ≠ 0)) := by simp [hy, hz]
              have E := Lib.hid e
              generalize decide (0 < b1.y ∨ jv ≠ 0) = dd at *
              clear e hz
              go_wp2_with fail
              go_meet
              exact ⟨E.out, rfl⟩
        case rest =>
          obtain ⟨rfl, rfl⟩ := hcut
          clear c1
          go_upto_if 45 with fail
          go_cut [45] (fun v45 wx => MB wx w.heap.size { b1 with vy := dv } ∧ MB wx (w.heap.size + 1) ⟨0, 0, 0, 0, 0, 0, 0⟩ ∧ Below w.heap.size w wx)
          case first =>
            by_cases hh : 0 < b1.y ∨ jv ≠ 0
            · have E := Lib.hid (show dv = hold (jv - 21845) by rw [ED.out, if_pos hh])
              have e : decide (0 < b1.y ∨ jv ≠ 0) = true := by simpa using hh
              rw [e]
              have pS := Lib.hid (fun w => Num.sub_any w jv 21845 hj.1 hj.2 (by omega) (by omega))
              generalize hold (jv - 21845) = q at *
              clear e hh
              go_wp2_with fail
              refine (pS.out _).mono ?_
              rintro e w2 ⟨rfl, bm⟩
              have M2 := HM.out.below bm (Blk.lt HM.out)
              have d2 := M2.c3
              have f2 := M2.fz 3
              have R2 := HR.out.below bm (Blk.lt HR.out)
              have B2 := HB.out.trans (bm.mono HB.out.size)
              go_wp2_with fail
              go_meet
              exact ⟨by rw [E.out]; exact M2.vy _, Blk.far R2 (by simp) _, B2.setCell (by simp) _⟩
            · have E := Lib.hid (show dv = jv by rw [ED.out, if_neg hh])
              have e : decide (0 < b1.y ∨ jv ≠ 0) = false := by simpa using hh
              rw [e]
              clear e hh
              go_wp2_with fail
              go_meet
              exact ⟨by rw [E.out]; exact HM.out, HR.out, HB.out⟩
          case rest =>
            obtain ⟨M1, R1, B1⟩ := hcut
            clear HM HR HB c3
            have HM := Lib.hid M1
            have HR := Lib.hid R1
            have HB := Lib.hid B1
            have c1 := M1.c1
            have c3 := M1.c3
            clear M1 R1 B1
            dsimp only at c1 c3
            have hy0 := hb1.y0
            have hy1 := hb1.y1
            have pA := Lib.hid (fun w => Num.add_any w b1.y dv (by omega) (by omega) hdv.1 hdv.2)
            generalize hold (b1.y + dv) = q at *
            go_wp2_with fail
            refine (pA.out _).mono ?_
            rintro e w2 ⟨rfl, bm⟩
            have M2 := HM.out.below bm (Blk.lt HM.out)
            have d1 := M2.c1
            have d3 := M2.c3
            have f1 := M2.fz 1
            have f3 := M2.fz 3
            have R2 := HR.out.below bm (Blk.lt HR.out)
            have B2 := HB.out.trans (bm.mono HB.out.size)
            have M3 := Lib.hid (M2.y q)
            have R3 := Lib.hid (Blk.far R2 (p := ⟨w.heap.size, 1, none⟩) (by simp) (.int .i64 q))
            have B3 := Lib.hid (B2.setCell (p := ⟨w.heap.size, 1, none⟩) (by simp) (.int .i64 q))
            clear M2 R2 B2 c1 c3
            go_upto_if 58 with fail
            go_cut [58] (fun v58 wx => MB wx w.heap.size fb ∧ MB wx (w.heap.size + 1) ⟨0, 0, 0, 0, 0, 0, 0⟩ ∧ Below w.heap.size w wx)
            case first =>
              by_cases hh : q ≤ 0
              · have E := Lib.hid (show fb = { b1 with y := 0, vy := 0 } by rw [EF.out, if_pos hh])
                go_wp2_with fail
                go_meet
                exact ⟨by rw [E.out]; exact (M3.out.y 0).vy 0, Blk.far (Blk.far R3.out (by simp) _) (by simp) _, (B3.out.setCell (by simp) _).setCell (by simp) _⟩
              · have E := Lib.hid (show fb = { b1 with y := q, vy := dv } by rw [EF.out, if_neg hh])
                go_wp2_with fail
                go_meet
                exact ⟨by rw [E.out]; exact M3.out, R3.out, B3.out⟩
            case rest =>
              obtain ⟨M1, R1, B1⟩ := hcut
              clear HM HR HB M3 R3 B3 d1 d3 f1 f3 EF ED pA
              have HM := Lib.hid M1
              have HR := Lib.hid R1
              have HB := Lib.hid B1
              have c0 := M1.c0
              have c2 := M1.c2
              clear M1 R1 B1
              have x0 := hfb.x0
              have x1 := hfb.x1
              have v0 := hfb.vx0
              have v1 := hfb.vx1
              have pA := Lib.hid (fun w => Num.add_any w fb.x fb.vx (by omega) (by omega) (by omega) (by omega))
              have EL := Lib.hid (show slideB fb = if clampV (hold (fb.x + fb.vx)) 0 13107200 = hold (fb.x + fb.vx) then { fb with x := clampV (hold (fb.x + fb.vx)) 0 13107200 } else { fb with x := clampV (hold (fb.x + fb.vx)) 0 13107200, vx := 0 } from rfl)
              generalize hold (fb.x + fb.vx) = z at *
              have pC := Lib.hid (fun w => rclamp_any w z 0 13107200 (by omega))
              generalize clampV z 0 13107200 = cz at *
              go_wp2_with fail
              refine (pA.out _).mono ?_
              rintro e w3 ⟨rfl, bm⟩
              have M2 := HM.out.below bm (Blk.lt HM.out)
              have d0 := M2.c0
              have d2 := M2.c2
              have f0 := M2.fz 0
              have f2 := M2.fz 2
              have R2 := HR.out.below bm (Blk.lt HR.out)
              have B2 := HB.out.trans (bm.mono HB.out.size)
              have M3 := Lib.hid (M2.x cz)
              have R3 := Lib.hid (Blk.far R2 (p := ⟨w.heap.size, 0, none⟩) (by simp) (.int .i64 cz))
              have B3 := Lib.hid (B2.setCell (p := ⟨w.heap.size, 0, none⟩) (by simp) (.int .i64 cz))
              clear M2 R2 B2 c0 c2
              go_wp2_with fail
              refine (pC.out _).mono ?_
              rintro e w4 ⟨rfl, rfl⟩
              go_upto_if 72 with fail
              go_cut [72] (fun v72 wx => MB wx w.heap.size (slideB fb) ∧ MB wx (w.heap.size + 1) ⟨0, 0, 0, 0, 0, 0, 0⟩ ∧ Below w.heap.size w wx)
              case first =>
                by_cases hh : cz = z
                · have E := Lib.hid (show slideB fb = { fb with x := cz } by rw [EL.out, if_pos hh])
                  have hz' : (z != cz) = false := by simp [hh]
                  clear hh
                  go_wp2_with fail
                  go_meet
                  exact ⟨by rw [E.out]; exact M3.out, R3.out, B3.out⟩
                · have E := Lib.hid (show slideB fb = { fb with x := cz, vx := 0 } by rw [EL.out, if_neg hh])
                  have hz' : (z != cz) = true := by simpa using fun e => hh e.symm
                  have hz2 : (z == cz) = false := by simpa using fun e => hh e.symm
                  clear hh
                  go_wp2_with fail
                  go_meet
                  exact ⟨by rw [E.out]; exact M3.out.vx 0, Blk.far R3.out (by simp) _, B3.out.setCell (by simp) _⟩
              case rest =>
                obtain ⟨M1, R1, B1⟩ := hcut
                rw [← HMB.out] at M1
                obtain ⟨mb, hmb⟩ : ∃ mb, moveB b n = mb := ⟨_, rfl⟩
                rw [hmb] at M1
                have HMM := Lib.hid hmb
                clear hmb HMB
                have c0 := M1.c0
                have c1 := M1.c1
                have c2 := M1.c2
                have c3 := M1.c3
                have c4 := M1.c4
                have c5 := M1.c5
                have c6 := M1.c6
                have r0 := R1.c0
                have r1 := R1.c1
                have r2 := R1.c2
                have r3 := R1.c3
                have r4 := R1.c4
                have r5 := R1.c5
                have r6 := R1.c6
                have g0 := R1.fz 0
                have g1 := R1.fz 1
                have g2 := R1.fz 2
                have g3 := R1.fz 3
                have g4 := R1.fz 4
                have g5 := R1.fz 5
                have g6 := R1.fz 6
                have HB9 := Lib.hid B1
                clear M1 R1 B1 d0 d2 f0 f2
                go_wp2_with fail
                refine bodyPost_ret (v := bodV mb) (by simp [results, Try.results75, go_sem, r0, r1, r2, r3, r4, r5, r6, bodV, bodL]) rfl ⟨by rw [HMM.out], ?_⟩
                repeat (refine Below.setCell ?_ (by simp) _)
                exact HB9.out
end Go.Proofs.Ytckkpgopddnkiaa.Gm
namespace Go.Proofs.Ytckkpgopddnkiaa.Gm
open Go.RowKit Go.Sort Go.Proofs.Ytckkpgopddnkiaa.Num
set_option linter.all false

def storeR (P : Program) (t : TypeId) (p v : Value) (w : World) : Result Next := (Sem.run P (Instr.storeAt t p v) w).andThen fun _ w' => .ok .skip w'
section
variable (ev : Operand → Value) (dst : Option Tmp) (x y : Operand) (ty : TypeId) (pos : String) (after : Array Edge) (guard : Option (Nat × Bool)) (w : World)
theorem exec_store (t : TypeId) : (execOp ev { dst := dst, op := Op.store t x y, type := ty, pos := pos, after := after, guard := guard }).run Try.prog w = storeR Try.prog t (ev x) (ev y) w := by
  unfold execOp storeR
  simp only [Sem.run_bind, Sem.run_pure]
theorem exec_load (t : TypeId) : (execOp ev { dst := dst, op := Op.load t x, type := ty, pos := pos, after := after, guard := guard }).run Try.prog w = loadR Try.prog t (ev x) w := by
  unfold execOp loadR
  simp only [Sem.run_bind, Sem.run_pure]
theorem exec_st33 : (execOp ev { dst := dst, op := Op.store 53 x y, type := ty, pos := pos, after := after, guard := guard }).run Try.prog w = storeR Try.prog 53 (ev x) (ev y) w := exec_store ..
theorem exec_st26 : (execOp ev { dst := dst, op := Op.store 46 x y, type := ty, pos := pos, after := after, guard := guard }).run Try.prog w = storeR Try.prog 46 (ev x) (ev y) w := exec_store ..
theorem exec_st29 : (execOp ev { dst := dst, op := Op.store 49 x y, type := ty, pos := pos, after := after, guard := guard }).run Try.prog w = storeR Try.prog 49 (ev x) (ev y) w := exec_store ..
theorem exec_ld26 : (execOp ev { dst := dst, op := Op.load 46 x, type := ty, pos := pos, after := after, guard := guard }).run Try.prog w = loadR Try.prog 46 (ev x) w := exec_load ..
theorem exec_ld29 : (execOp ev { dst := dst, op := Op.load 49 x, type := ty, pos := pos, after := after, guard := guard }).run Try.prog w = loadR Try.prog 49 (ev x) w := exec_load ..
end
theorem storeR_mid {w w' : World} {b o : Nat} {ty : TypeId} {cells : Array Value} (ht : w.there b o cells.size) (hi : (Try.prog.info? ty).map (·.size) = some cells.size) (h1 : cells.all (·.oneCell') = true) (hw : w.setCells b o cells.toList = w') :
    storeR Try.prog ty (.pointer (some ⟨b, o, none⟩)) (.agg cells) w = .ok .skip w' := by
  unfold storeR
  rw [run_storeAt_mid w b o ty cells ht hi h1, hw]
  rfl
/-- A row of cells, if it is there. -/
def rowIn (w : World) (g o n : Nat) : Option (List Value) := (List.range n).mapM fun j => w.cell? ⟨g, o + j, none⟩
theorem rowIn_aux (w : World) (g o : Nat) : ∀ (L : List Value) (k : Nat), (∀ j v, L[j]? = some v → w.cell? ⟨g, o + (k + j), none⟩ = some v) → (List.range' k L.length).mapM (fun j => w.cell? ⟨g, o + j, none⟩) = some L
  | [], k, _ => rfl
  | v :: L, k, h => by
    have h0 := h 0 v rfl
    have hr := rowIn_aux w g o L (k + 1) (fun j u hj => by
      have := h (j + 1) u (by simpa using hj)
      rw [← this]
      congr 2
      omega)
    rw [List.length_cons, List.range'_succ, List.mapM_cons]
    rw [Nat.add_zero] at h0
    rw [h0, hr]
    rfl
theorem rowIn_of {w : World} {g o n : Nat} {L : List Value} (h : w.rangeAt g o L) (hn : L.length = n) : rowIn w g o n = some L := by
  unfold rowIn
  rw [List.range_eq_range', ← hn]
  exact rowIn_aux w g o L 0 (fun j v hj => by rw [Nat.zero_add]; exact h j v hj)
theorem rowIn_drew (w : World) (g o n : Nat) : rowIn w.drew g o n = rowIn w g o n := rfl
theorem of_rowIn {w : World} {g o n : Nat} {L : List Value} (h : rowIn w g o n = some L) : w.rangeAt g o L ∧ L.length = n := by
  unfold rowIn at h
  rw [List.range_eq_range'] at h
  have key : ∀ (n k : Nat) (L : List Value), (List.range' k n).mapM (fun j => w.cell? ⟨g, o + j, none⟩) = some L → L.length = n ∧ ∀ j v, L[j]? = some v → w.cell? ⟨g, o + (k + j), none⟩ = some v := by
    intro n
    induction n with
    | zero => intro k L h; cases h; exact ⟨rfl, fun j v hj => by simp at hj⟩
    | succ n ih =>
      intro k L h
      rw [List.range'_succ, List.mapM_cons] at h
      cases h0 : w.cell? ⟨g, o + k, none⟩ with
      | none => rw [h0] at h; cases h
      | some v0 =>
        rw [h0] at h
        cases h1 : (List.range' (k + 1) n).mapM (fun j => w.cell? ⟨g, o + j, none⟩) with
        | none => rw [h1] at h; cases h
        | some L1 =>
          rw [h1] at h
          cases h
          obtain ⟨hl, hc⟩ := ih (k + 1) L1 h1
          refine ⟨by simp [hl], fun j v hj => ?_⟩
          cases j with
          | zero => simp at hj; rw [← hj]; simpa using h0
          | succ j => have := hc j v (by simpa using hj); rw [← this]; congr 2; omega
  obtain ⟨hl, hc⟩ := key n 0 L h
  exact ⟨fun j v hj => by have := hc j v hj; rwa [Nat.zero_add] at this, hl⟩
def loadI (w : World) (r : Result Next) : Option (List Value) → Result Next
  | some L => .ok (.value (.agg L.toArray)) w
  | none => r
theorem loadI_none (w : World) (r : Result Next) : loadI w r none = r := rfl
theorem loadI_some (w : World) (r : Result Next) (L : List Value) : loadI w r (some L) = .ok (.value (.agg L.toArray)) w := rfl
def loadR0 (P : Program) (t : TypeId) (v : Value) (w : World) : Result Next := loadR P t v w
theorem loadR_mid {ty : TypeId} {n : Nat} (w : World) (g o : Nat) (d : TypeDesc) (hu : Try.prog.underlying ty = some d) (hd : d.isRow = true) (hi : (Try.prog.info? ty).map (·.size) = some n) :
    loadR Try.prog ty (.pointer (some ⟨g, o, none⟩)) w = loadI w (loadR0 Try.prog ty (.pointer (some ⟨g, o, none⟩)) w) (rowIn w g o n) := by
  cases h : rowIn w g o n with
  | none => rw [loadI_none]; unfold loadR0; exact Eq.refl _
  | some L =>
    obtain ⟨hr, hl⟩ := of_rowIn h
    rw [loadI_some]
    unfold loadR
    rw [run_loadAt_mid w g o ty L d hr hu hd (by rw [hl]; exact hi)]
    rfl
theorem loadR26 (w : World) (g o : Nat) : loadR Try.prog 46 (.pointer (some ⟨g, o, none⟩)) w = loadI w (loadR0 Try.prog 46 (.pointer (some ⟨g, o, none⟩)) w) (rowIn w g o 7) :=
  loadR_mid w g o _ Try.underlying46 rfl infoB
theorem loadR29 (w : World) (g o : Nat) : loadR Try.prog 49 (.pointer (some ⟨g, o, none⟩)) w = loadI w (loadR0 Try.prog 49 (.pointer (some ⟨g, o, none⟩)) w) (rowIn w g o 6) :=
  loadR_mid w g o _ Try.underlying49 rfl infoS
end Go.Proofs.Ytckkpgopddnkiaa.Gm
namespace Go.Proofs.Ytckkpgopddnkiaa.Netw
open Go.RowKit
set_option linter.all false

set_option maxRecDepth 100000 in
set_option maxHeartbeats 2000000 in
theorem same_bytes (w : World) (a b : Option Addr) (l c c' : Nat) (zs : List Int) (ha : Row .u8 w a l zs) (hb : Row .u8 w b l zs) (hl : l ≤ 9223372036854775807) :
    Calls Try.prog 40 #[.slice a l c, .slice b l c'] w fun e w' => e = .returned (.bool true) ∧ Below w.heap.size w w' := by
  go_enter Try.func40, Try.ntmps40
  go_wp2_with fail
  go_loopw [5] (fun i wr => ∃ k : Nat, k ≤ l ∧ i = .int .i64 k ∧ ∃ nn, wr = w.drewN nn) (fun i _ => l - (intOf i).toNat)
  case atStart => exact ⟨0, Nat.zero_le _, rfl, 0, rfl⟩
  case round =>
    obtain ⟨k, hk, rfl, nn, rfl⟩ := hrel
    by_cases hlt : k < l
    · obtain ⟨ga, oa, rfl, hga, ca⟩ := ha.2 (by omega)
      obtain ⟨gb, ob, rfl, hgb, cb⟩ := hb.2 (by omega)
      have r1 := ca k hlt
      have r2 := cb k hlt
      have i1 : (0 : Int) ≤ (k : Int) := by omega
      have i2 : (k : Int) < (l : Int) := by omega
      clear ca cb ha hb
      generalize nth zs k = vv at r1 r2
      go_wp2_with fail
      go_quiet (fail)
      go_wp2_with fail
      go_roundw
      case rel => exact ⟨k + 1, by omega, by go_num, _, rfl⟩
      case measure => simp [intOf]; omega
    · obtain rfl : k = l := by omega
      go_wp2_with fail
      go_ret
      exact ⟨rfl, below_drewN (Below.refl _ _) _⟩
end Go.Proofs.Ytckkpgopddnkiaa.Netw
namespace Go.Proofs.Ytckkpgopddnkiaa.Gm
open Go.RowKit Go.Sort Go.Proofs.Ytckkpgopddnkiaa.Num Go.Proofs.Ytckkpgopddnkiaa.Byt
set_option linter.all false
attribute [local go_sem ↓] exec33
attribute [local go_sem] loadR_at cellsAt_drew

theorem nth_some {l : List Int} {k : Nat} (h : k < l.length) : l[k]? = some (nth l k) := by simp [nth, List.getD, h]
theorem out_row {w : World} {v : Value} {xs : List Int} (h : Out w v xs) : ∃ a c, v = .slice a xs.length c ∧ Row .u8 w a xs.length xs := by
  rcases On.form h with ⟨rfl, hn, hx⟩ | ⟨g, cap, rfl, hnc, hcm, how, hgl, hcell, hfr⟩
  · exact ⟨none, 0, by rw [hn], rfl, fun hp => by omega⟩
  · refine ⟨_, _, rfl, rfl, fun hp => ⟨g, 0, rfl, hgl, fun j hj => ?_⟩⟩
    rw [Nat.zero_add]
    exact hcell j _ (by unfold ub; rw [List.getElem?_map, nth_some hj]; rfl)
theorem Row.below8 {w w' : World} {a : Option Addr} {len : Nat} {zs : List Int} (h : Row .u8 w a len zs) (hb : Below w.heap.size w w') : Row .u8 w' a len zs := h.below hb

set_option maxRecDepth 100000 in
set_option maxHeartbeats 8000000 in
theorem sums_law (w : World) (f : F) (hw : Wf f) : Calls Try.prog 7 #[stV f] w fun e w' => e = .returned (.bool true) ∧ Below w.heap.size w w' := by
  obtain ⟨C, LC⟩ := let_of f
  obtain ⟨W1, hW1⟩ : ∃ W1, W1 = w.alloc (.cells C 53) := ⟨_, rfl⟩
  have hX : Blk W1 w.heap.size 53 C := by rw [hW1]; exact Blk.new _ _ _
  have hB : Below w.heap.size w W1 := by rw [hW1]; exact (Below.refl _ w).alloc (Nat.le_refl _) _
  have hlen := stB_len f
  have pA := Lib.hid (fun W => awake_any W)
  have pB := Lib.hid (fun W => bytes_any W f hw)
  have pR := Lib.hid (fun W => rstB_any W f hw)
  have pS := Lib.hid (fun W => sum_any W f hw)
  have pT := Lib.hid (fun W => rsum_any W f hw)
  unfold stV at pB pR pS pT ⊢
  rw [← LC.eq] at pB pR pS pT ⊢
  obtain ⟨L, hL⟩ : ∃ L, stB f = L := ⟨_, rfl⟩
  rw [hL] at pB pR pS pT hlen
  have hsz := LC.size
  have c0 : cellsAt W1.drew w.heap.size = C := cellsAt_blk hX
  have hX' := Lib.hid hX
  have HLEN := Lib.hid hlen
  have HB := Lib.hid hB
  clear hX hw LC hL hlen hB
  go_enter Try.func7, Try.ntmps7
  go_upto_region 1 with fail
  rw [← hW1]
  clear hW1
  generalize sumL L = sm at *
  go_region_held3 (fun w' => cellsAt w' w.heap.size = C) (first | exact c0 | exact cellsAt_blk XA | exact cellsAt_blk XB | exact cellsAt_blk XR | exact cellsAt_blk XM | exact cellsAt_blk XS | exact cellsAt_blk XT)
    (first
      | (go_at_call 39; refine (pA.out _).mono ?_; rintro e wA ⟨rfl, bA⟩; have XA : Blk wA w.heap.size 53 C := (Blk.drew hX'.out).below bA hX'.out.lt; have YA : Below w.heap.size w wA := HB.out.drew.trans (bA.mono HB.out.size))
      | (go_at_call 41; refine (pB.out _).mono ?_; rintro e wB ⟨vB, rfl, RB⟩; have XB : Blk wB w.heap.size 53 C := (by first | exact XR.below RB.below XR.lt | exact XA.below RB.below XA.lt); have YB : Below w.heap.size w wB := (by first | exact YR.trans (RB.below.mono YR.size) | exact YA.trans (RB.below.mono YA.size)); obtain ⟨aB, cB, rfl, rowB⟩ := out_row RB.out)
      | (go_at_call 42; refine (pR.out _).mono ?_; rintro e wR ⟨vR, rfl, RR⟩; have XR : Blk wR w.heap.size 53 C := (by first | exact XB.below RR.below XB.lt | exact XA.below RR.below XA.lt); have YR : Below w.heap.size w wR := (by first | exact YB.trans (RR.below.mono YB.size) | exact YA.trans (RR.below.mono YA.size)); obtain ⟨aR, cR, rfl, rowR⟩ := out_row RR.out)
      | (go_at_call 40; refine (Netw.same_bytes _ aB aR L.length cB cR L (by first | exact rowB.below RR.below | exact rowB) (by first | exact rowR.below RB.below | exact rowR) (by have := HLEN.out; omega)).mono ?_; rintro e wM ⟨rfl, bM⟩; have XM : Blk wM w.heap.size 53 C := (by first | exact XR.below bM XR.lt | exact XB.below bM XB.lt); have YM : Below w.heap.size w wM := (by first | exact YR.trans (bM.mono YR.size) | exact YB.trans (bM.mono YB.size)))
      | (go_at_call 43; refine (pS.out _).mono ?_; rintro e wS ⟨rfl, bS⟩; have XS : Blk wS w.heap.size 53 C := (by first | exact XT.below bS XT.lt | exact XM.below bS XM.lt); have YS : Below w.heap.size w wS := (by first | exact YT.trans (bS.mono YT.size) | exact YM.trans (bS.mono YM.size)))
      | (go_at_call 44; refine (pT.out _).mono ?_; rintro e wT ⟨rfl, bT⟩; have XT : Blk wT w.heap.size 53 C := (by first | exact XS.below bT XS.lt | exact XM.below bT XM.lt); have YT : Below w.heap.size w wT := (by first | exact YS.trans (bT.mono YS.size) | exact YM.trans (bT.mono YM.size))))
  all_goals
    go_wp2_with fail
    go_ret
    first
      | exact ⟨rfl, YT⟩
      | exact ⟨rfl, YS⟩
      | exact ⟨ret_bool (by simp), YT⟩
      | exact ⟨ret_bool (by simp), YS⟩
end Go.Proofs.Ytckkpgopddnkiaa.Gm
namespace Go.Proofs.Ytckkpgopddnkiaa.RingE
open Go.RowKit Go.Sort Go.Proofs.Ytckkpgopddnkiaa.Gm
set_option linter.all false

abbrev NT := F × Int
def cs (x : NT) : List Value := (stA x.1).toList ++ [.int .u32 x.2]
theorem cs_len : ∀ x, (cs x).length = 67 := fun x => by simp [cs, stA]
theorem cs_one : ∀ x, ∀ u ∈ cs x, u.oneCell' = true := by
  intro x u hu
  rcases List.mem_append.1 hu with h | h
  · exact (Array.all_eq_true_iff_forall_mem.1 (stA_one x.1)) u (by simpa using h)
  · obtain rfl := List.mem_singleton.1 h
    rfl
theorem info : (Try.prog.info? 182).map (fun i => (i.zero, i.size, i.bytes)) = some (some (.agg Try.zeroCells182), 67, 536) := by kernel_rfl
theorem infoE : (Try.prog.info? 182).map (·.size) = some 67 := by kernel_rfl

/-- A ring in memory: its block, and its list. -/
def At (w : World) (r : Nat) (room first : Int) (sv : Value) (l : List NT) : Prop :=
  Blk w r 206 #[.int .i64 room, .int .i64 first, sv] ∧ On w 182 67 sv l.length (flat cs l)
def fp (r : Nat) (sv : Value) : Nat → Prop := fun k => k = r ∨ sv.ownBlock = some k
section
variable {S : Nat → Prop} {w w' : World} {r : Nat} {room first : Int} {sv : Value} {l : List NT}
theorem At.lt (h : At w r room first sv l) : ∀ k, fp r sv k → k < w.heap.size := fun k hk => hk.elim (fun e => e ▸ h.1.lt) (fun e => h.2.lt k e)
theorem At.ne_ (h : At w r room first sv l) : sv.ownBlock ≠ some r := h.2.blk_ne h.1 (by decide)
theorem At.drewN (h : At w r room first sv l) (n : Nat) : At (w.drewN n) r room first sv l := h
theorem At.drew (h : At w r room first sv l) : At w.drew r room first sv l := h
theorem At.alloc (h : At w r room first sv l) (o : Obj) : At (w.alloc o) r room first sv l := ⟨h.1.alloc o, h.2.alloc o⟩
theorem At.heap_eq (h : At w r room first sv l) (hW : w'.heap = w.heap) : At w' r room first sv l := ⟨h.1.heap_eq hW, h.2.heap_eq hW⟩
theorem At.touch (h : At w r room first sv l) (ht : Touch S w w') (hS : ∀ k, fp r sv k → ¬ S k) : At w' r room first sv l := ⟨h.1.touch ht (hS r (.inl rfl)), h.2.touch ht fun g hg => hS g (.inr hg)⟩
theorem At.below (h : At w r room first sv l) (hb : Below w.heap.size w w') : At w' r room first sv l := ⟨h.1.below hb h.1.lt, h.2.below hb h.2.lt⟩
theorem At.cells (h : At w r room first sv l) : (w.cell? ⟨r, 0, none⟩ = some (.int .i64 room) ∧ w.cell? ⟨r, 1, none⟩ = some (.int .i64 first) ∧ w.cell? ⟨r, 2, none⟩ = some sv) ∧
    (w.frozen? ⟨r, 0, none⟩ = false ∧ w.frozen? ⟨r, 1, none⟩ = false ∧ w.frozen? ⟨r, 2, none⟩ = false) :=
  ⟨⟨h.1.cell 0, h.1.cell 1, h.1.cell 2⟩, h.1.frozen 0, h.1.frozen 1, h.1.frozen 2⟩
theorem At.slc (h : At w r room first sv l) : ∃ a c, sv = .slice a l.length c ∧ l.length ≤ c ∧ c ≤ maxLen ∧ (0 < l.length → ∃ g, a = some ⟨g, 0, none⟩ ∧ g ≠ r ∧ ∀ j x, l[j]? = some x → w.rangeAt g (j * 67) (cs x)) := by
  have hne := h.ne_
  rcases h.2.form with ⟨rfl, h0, _⟩ | ⟨g, cap, hv, hnc, hcm, hown, hlt, hc, hf⟩
  · exact ⟨none, 0, by rw [h0], by omega, by simp [maxLen], fun hp => by omega⟩
  · refine ⟨_, cap, hv, hnc, hcm, fun _ => ⟨g, rfl, fun e => hne (by rw [hown, e]), fun j x hx i v hi => ?_⟩⟩
    have hil : i < 67 := by
      have := (List.getElem?_eq_some_iff.1 hi).1
      rwa [cs_len] at this
    exact hc (j * 67 + i) _ (by rw [flat_get cs_len l hx hil]; exact hi)
end
set_option maxHeartbeats 400000 in
theorem first_any (w : World) (r : Nat) (room first : Int) (sv : Value) (l : List NT) (h : At w r room first sv l) :
    Calls Try.prog 116 #[.pointer (some ⟨r, 0, none⟩)] w fun e w' => e = .returned (.int .i64 first) ∧ w = w' := by
  obtain ⟨⟨c0, c1, c2⟩, f0, f1, f2⟩ := h.cells
  go_enter Try.func116, Try.ntmps116
  go_wp2
  go_ret
  exact ⟨rfl, rfl⟩

set_option maxHeartbeats 400000 in
theorem len_any (w : World) (r : Nat) (room first : Int) (sv : Value) (l : List NT) (h : At w r room first sv l) :
    Calls Try.prog 113 #[.pointer (some ⟨r, 0, none⟩)] w fun e w' => e = .returned (.int .i64 l.length) ∧ w = w' := by
  obtain ⟨⟨c0, c1, c2⟩, f0, f1, f2⟩ := h.cells
  obtain ⟨a, c, rfl, hlc, hcm, hsv⟩ := h.slc
  go_enter Try.func113, Try.ntmps113
  go_wp2
  go_ret
  exact ⟨rfl, rfl⟩

set_option maxHeartbeats 400000 in
theorem next_any (w : World) (r : Nat) (room first : Int) (sv : Value) (l : List NT) (h : At w r room first sv l) (h0 : 0 ≤ first) (h1 : first + l.length ≤ 4611686018427387904) :
    Calls Try.prog 114 #[.pointer (some ⟨r, 0, none⟩)] w fun e w' => e = .returned (.int .i64 (first + l.length)) ∧ ∃ n, w' = w.drewN n := by
  obtain ⟨⟨c0, c1, c2⟩, f0, f1, f2⟩ := h.cells
  obtain ⟨a, c, rfl, hlc, hcm, hsv⟩ := h.slc
  go_enter Try.func114, Try.ntmps114
  go_wp2
  go_quiet (fail)
  go_wp2
  go_ret
  exact ⟨rfl, nq, rfl⟩

/-- Where an entry stands. -/
def placeB (first : Int) (len : Nat) (n : Int) : Int := if n < first then -1 else if n - first ≥ len then -1 else n - first

set_option maxHeartbeats 400000 in
theorem place_any (w : World) (r : Nat) (room first n : Int) (sv : Value) (l : List NT) (h : At w r room first sv l) (h0 : 0 ≤ first) (hn : n ≤ 9223372036854775807) :
    Calls Try.prog 145 #[.pointer (some ⟨r, 0, none⟩), .int .i64 n] w fun e w' => e = .returned (.int .i64 (placeB first l.length n)) ∧ ∃ n, w' = w.drewN n := by
  obtain ⟨⟨c0, c1, c2⟩, f0, f1, f2⟩ := h.cells
  obtain ⟨a, c, rfl, hlc, hcm, hsv⟩ := h.slc
  by_cases c0 : n < first
  · have d0 : decide (n < first) = true := by simp [c0]
    have e : placeB first l.length n = -1 := by simp [placeB, c0]
    have E := Lib.hid e
    clear e
    go_enter Try.func145, Try.ntmps145
    go_wp2_with fail
    go_quiet (fail)
    go_wp2
    go_ret
    exact ⟨ret_int E.out.symm, nq, rfl⟩
  · have d0 : decide (n < first) = false := by simp [c0]
    by_cases c1 : (l.length : Int) ≤ n - first
    · have e : placeB first l.length n = -1 := by simp [placeB, c0, c1]
      have E := Lib.hid e
      clear e
      go_enter Try.func145, Try.ntmps145
      go_wp2_with fail
      go_quiet (fail)
      go_wp2
      go_ret
      exact ⟨ret_int E.out.symm, nq, rfl⟩
    · have e : placeB first l.length n = n - first := by simp [placeB, c0, c1]
      have E := Lib.hid e
      clear e
      go_enter Try.func145, Try.ntmps145
      go_wp2_with fail
      go_quiet (fail)
      go_wp2
      go_ret
      exact ⟨ret_int E.out.symm, nq, rfl⟩

set_option maxHeartbeats 400000 in
theorem new_ok (n : Int) (w : World) (h : 1 ≤ n) (h2 : n ≤ 4096) :
    Calls Try.prog 112 #[.int .i64 n] w fun e w' => e = .returned (.tuple #[.pointer (some ⟨w.heap.size, 0, none⟩), .int .i64 0]) ∧ w.alloc (.cells #[.int .i64 n, .int .i64 0, .slice none 0 0] 206) = w' := by
  go_enter Try.func112, Try.ntmps112
  go_wp2
  go_ret2
  exact ⟨rfl, rfl⟩

theorem at_new (w : World) (n : Int) : At (w.alloc (.cells #[.int .i64 n, .int .i64 0, .slice none 0 0] 206)) w.heap.size n 0 (.slice none 0 0) [] := ⟨Blk.new _ _ _, On.nil _ _ _⟩

set_option maxHeartbeats 400000 in
theorem new_no (n : Int) (w : World) (h : n < 1 ∨ 4096 < n) :
    Calls Try.prog 112 #[.int .i64 n] w fun e w' => e = .returned (.tuple #[.pointer none, .int .i64 1]) ∧ w = w' := by
  rcases h with h | h
  · go_enter Try.func112, Try.ntmps112
    go_wp2
    go_ret2
    exact ⟨rfl, rfl⟩
  · have h' : ¬ n < 1 := by omega
    go_enter Try.func112, Try.ntmps112
    go_wp2
    go_ret2
    exact ⟨rfl, rfl⟩


end Go.Proofs.Ytckkpgopddnkiaa.RingE
namespace Go.Proofs.Ytckkpgopddnkiaa.RingE
open Go.RowKit Go.Sort Go.Proofs.Ytckkpgopddnkiaa.Gm
set_option linter.all false

/-- Two results, the first one in a cell. -/
theorem pair_results {fn : Func} (hfn : fn.results = #[.cell 4 182, .tmp 5]) (tmps : Array Value) (W : World) (g : Nat) (t : TypeId) (C : Array Value) (v : Value) (h : Blk W g t C) (hC : (Try.prog.info? 182).map (·.size) = some C.size)
    (h4 : tmps.getD 4 undef = .pointer (some ⟨g, 0, none⟩)) (h5 : tmps.getD 5 undef = v) : (results fn tmps).run Try.prog W = .ok (.tuple #[.agg C, v]) W := by
  have e4 : tmps[4]?.getD undef = .pointer (some ⟨g, 0, none⟩) := by simpa using h4
  have e5 : tmps[5]?.getD undef = v := by simpa using h5
  have hl := run_loadVar_row (P := Try.prog) W g t 182 C (0, 0) _ h Try.underlying182 rfl hC
  simp [results, hfn, e4, e5, asAddr, hl]
theorem zE : Try.zeroCells182 = (cs (zF, 0)).toArray := by kernel_rfl
/-- An entry's cells as a letter. -/
structure EL (C : Array Value) (x : NT) : Prop where
  eq : C.toList = cs x
  size : C.size = 67
  one : C.all (·.oneCell') = true
  info : (Try.prog.info? 182).map (·.size) = some C.size
theorem el_of (x : NT) : ∃ C, EL C x := by
  refine ⟨(cs x).toArray, rfl, by simp [cs_len], Array.all_eq_true_iff_forall_mem.2 (fun v hv => cs_one x v (by simpa using hv)), ?_⟩
  rw [infoE]
  simp [cs_len]
theorem EL.same {C D : Array Value} {x : NT} (h : EL C x) (h' : EL D x) : C = D := Array.ext' (h.eq.trans h'.eq.symm)
def none0 : NT := (zF, 0)
def atX (first : Int) (l : List NT) (n : Int) : NT := if n < first then none0 else l.getD (n - first).toNat none0
def atE (first : Int) (len : Nat) (n : Int) : Int := if n < first then 90 else if n - first ≥ len then 91 else 0

set_option maxRecDepth 100000 in
set_option maxHeartbeats 4000000 in
theorem at_any (w : World) (r : Nat) (room first n : Int) (sv : Value) (l : List NT) (h : At w r room first sv l) (h0 : 0 ≤ first) (hn : n ≤ 9223372036854775807) :
    Calls Try.prog 123 #[.pointer (some ⟨r, 0, none⟩), .int .i64 n] w fun e w' => ∃ C, EL C (atX first l n) ∧ e = .returned (.tuple #[.agg C, .int .i64 (atE first l.length n)]) ∧ Below w.heap.size w w' := by
  obtain ⟨Z, LZ⟩ := el_of none0
  have hZ : Try.zeroCells182 = Z := by rw [zE]; exact Array.ext' LZ.eq.symm
  obtain ⟨W1, hW1⟩ : ∃ W1, W1 = (w.alloc (.cells Z 182)).alloc (.cells Z 182) := ⟨_, rfl⟩
  have hR : Blk W1 w.heap.size 182 Z := by rw [hW1]; exact (Blk.new _ _ _).alloc _
  have hN : Blk W1 (w.heap.size + 1) 182 Z := by
    rw [hW1]
    have := Blk.new (w.alloc (.cells Z 182)) 182 Z
    simpa using this
  have hB : Below w.heap.size w W1 := by rw [hW1]; exact ((Below.refl _ w).alloc (Nat.le_refl _) _).alloc (by simp) _
  have hA := h.below hB
  clear h
  have hp := place_any W1 r room first n sv l hA h0 hn
  obtain ⟨⟨c0, c1, c2⟩, -⟩ := hA.cells
  obtain ⟨a, c, rfl, hlc, hcm, hsv⟩ := hA.slc
  unfold maxLen at hcm
  by_cases b0 : n < first
  · have e1 := Lib.hid (show atX first l n = none0 by simp [atX, b0])
    have e2 := Lib.hid (show atE first l.length n = 90 by simp [atE, b0])
    have e3 : placeB first l.length n = -1 := by simp [placeB, b0]
    rw [e3] at hp
    have hp := Lib.hid hp
    have hzl := LZ.size
    have hzo := LZ.one
    have hzi := LZ.info
    have HL := Lib.hid LZ
    have HB := Lib.hid hB
    clear e3 hA hsv LZ hB
    go_enter Try.func123, Try.ntmps123
    go_upto_region 2 with fail
    rw [← hW1]
    clear hW1 hZ
    go_wp2_with fail
    refine hp.out.mono ?_
    rintro e w2 ⟨rfl, nq, rfl⟩
    have hR2 := hR.drewN nq
    have hN2 := hN.drewN nq
    have HB2 := Lib.hid (below_drewN HB.out nq)
    clear hR hN hp HB
    go_wp2_with (first
      | (refine wpList_load_blk (by rfl) 182 _ (by rfl) (w.heap.size + 1) (by rfl) _ Z _ hN2 Try.underlying182 (by rfl) hzi ?_)
      | (refine wpList_store_blk (by rfl) 182 _ _ (by rfl) w.heap.size Z (by rfl) (by rfl) _ Z hR2 hzi rfl hzo ?_; intro W6 hd6 ht6)
      | fail)
    refine bodyPost_ret (v := .tuple #[.agg Z, .int .i64 90]) (pair_results Try.results123 _ _ w.heap.size _ Z _ hd6 hzi (by rfl) (by rfl)) rfl ⟨Z, by rw [e1.out]; exact HL.out, by rw [e2.out], HB2.out.trans (ht6.below HB2.out.size (fun k hk => by omega))⟩
  · by_cases b1 : (l.length : Int) ≤ n - first
    · have e1 := Lib.hid (show atX first l n = none0 by unfold atX; rw [if_neg b0, List.getD_eq_getElem?_getD, List.getElem?_eq_none (by omega)]; rfl)
      have e2 := Lib.hid (show atE first l.length n = 91 by simp [atE, b0, b1])
      have e3 : placeB first l.length n = -1 := by simp [placeB, b0, b1]
      rw [e3] at hp
      have hp := Lib.hid hp
      have hzl := LZ.size
      have hzo := LZ.one
      have hzi := LZ.info
      have HL := Lib.hid LZ
      have HB := Lib.hid hB
      clear e3 hA hsv LZ hB b1
      go_enter Try.func123, Try.ntmps123
      go_upto_region 2 with fail
      rw [← hW1]
      clear hW1 hZ
      go_wp2_with fail
      refine hp.out.mono ?_
      rintro e w2 ⟨rfl, nq, rfl⟩
      have hR2 := hR.drewN nq
      have hN2 := hN.drewN nq
      have HB2 := Lib.hid (below_drewN HB.out nq)
      clear hR hN hp HB
      go_wp2_with (first
        | (refine wpList_load_blk (by rfl) 182 _ (by rfl) (w.heap.size + 1) (by rfl) _ Z _ hN2 Try.underlying182 (by rfl) hzi ?_)
        | (refine wpList_store_blk (by rfl) 182 _ _ (by rfl) w.heap.size Z (by rfl) (by rfl) _ Z hR2 hzi rfl hzo ?_; intro W6 hd6 ht6)
        | fail)
      refine bodyPost_ret (v := .tuple #[.agg Z, .int .i64 91]) (pair_results Try.results123 _ _ w.heap.size _ Z _ hd6 hzi (by rfl) (by rfl)) rfl ⟨Z, by rw [e1.out]; exact HL.out, by rw [e2.out], HB2.out.trans (ht6.below HB2.out.size (fun k hk => by omega))⟩
    · obtain ⟨i, hi⟩ : ∃ i : Nat, n - first = i := ⟨(n - first).toNat, by omega⟩
      have hil : i < l.length := by omega
      obtain ⟨g, rfl, hgr, hrow⟩ := hsv (by omega)
      have hx : l[i]? = some (l[i]'hil) := List.getElem?_eq_getElem hil
      have hrg := hrow i _ hx
      have e1 := Lib.hid (show atX first l n = l[i]'hil by unfold atX; rw [if_neg b0, List.getD_eq_getElem?_getD, hi, Int.toNat_natCast, hx]; rfl)
      have e2 := Lib.hid (show atE first l.length n = 0 by simp [atE, b0]; omega)
      have e3 : placeB first l.length n = i := by simp [placeB, b0]; omega
      rw [e3] at hp
      generalize l[i]'hil = x at *
      obtain ⟨L, hL⟩ : ∃ L, L = cs x := ⟨_, rfl⟩
      rw [← hL] at hrg
      have hLn : L.length = 67 := by rw [hL]; exact cs_len x
      have hLi : (Try.prog.info? 182).map (·.size) = some L.length := by rw [hLn]; exact infoE
      have HEL := Lib.hid (show EL L.toArray x from ⟨hL, by simp [hLn], Array.all_eq_true_iff_forall_mem.2 (fun v hv => cs_one x v (by rw [← hL]; simpa using hv)), by rw [infoE]; simp [hLn]⟩)
      have hlo := HEL.out.one
      have hli := HEL.out.info
      have hzs : Z.size = L.toArray.size := by rw [LZ.size, HEL.out.size]
      have hp := Lib.hid hp
      have HB := Lib.hid hB
      have i1 : (0 : Int) ≤ (i : Int) := by omega
      have i2 : (i : Int) < (l.length : Int) := by omega
      clear e3 hA hsv LZ hB b1 hrow hx hL hi hil
      go_enter Try.func123, Try.ntmps123
      go_upto_region 2 with fail
      rw [← hW1]
      clear hW1 hZ
      go_wp2_with fail
      refine hp.out.mono ?_
      rintro e w2 ⟨rfl, nq, rfl⟩
      have hR2 := hR.drewN nq
      have hrg2 : (W1.drewN nq).rangeAt g (i * 67) L := hrg
      have HB2 := Lib.hid (below_drewN HB.out nq)
      clear hR hN hp HB hrg
      go_wp2_with (first
        | (refine wpList_load_mid (by rfl) 182 _ (by rfl) g (i * 67) (by rfl) L _ hrg2 Try.underlying182 (by rfl) hLi ?_)
        | (refine wpList_store_blk (by rfl) 182 _ _ (by rfl) w.heap.size L.toArray (by rfl) (by rfl) _ Z hR2 hli hzs hlo ?_; intro W6 hd6 ht6)
        | fail)
      refine bodyPost_ret (v := .tuple #[.agg L.toArray, .int .i64 0]) (pair_results Try.results123 _ _ w.heap.size _ L.toArray _ hd6 hli (by rfl) (by rfl)) rfl ⟨L.toArray, by rw [e1.out]; exact HEL.out, by rw [e2.out], HB2.out.trans (ht6.below HB2.out.size (fun k hk => by omega))⟩
end Go.Proofs.Ytckkpgopddnkiaa.RingE
