/-
  The document's move, on a block of one body.
-/
import Derived.Test.YtblnfkhaicjeaaaRgm
import Derived.Test.YtblnfkhaicjeaaaTimes
import Derived.Deep.Cut
import Derived.Deep.CutBlock
import Derived.Deep.DeepCutAuto
namespace Go.Proofs.Ytblnfkhaicjeaaa.Gm
open Go.RowKit Go.Proofs.Ytblnfkhaicjeaaa.Num
set_option linter.all false

/-- A block of one body. -/
def MB (w : World) (g : Nat) (b : Body) : Prop := Blk w g 26 (bodL b).toArray
section
variable {w w' : World} {g : Nat} {b : Body}
theorem MB.at_ (h : MB w g b) {j : Nat} {v : Value} (e : (bodL b)[j]? = some v) : w.cell? ⟨g, j, none⟩ = some v := by
  rw [Blk.cell h j, List.getElem?_toArray, e]
theorem MB.cells (h : MB w g b) : BodyAt w g 0 b :=
  ⟨h.at_ (j := 0) rfl, by simpa using h.at_ (j := 1) rfl, by simpa using h.at_ (j := 2) rfl, by simpa using h.at_ (j := 3) rfl, by simpa using h.at_ (j := 4) rfl, by simpa using h.at_ (j := 5) rfl, by simpa using h.at_ (j := 6) rfl, fun j => Blk.frozen h j⟩
theorem MB.c0 (h : MB w g b) : w.cell? ⟨g, 0, none⟩ = some (.int .i64 b.x) := h.at_ (j := 0) rfl
theorem MB.c1 (h : MB w g b) : w.cell? ⟨g, 1, none⟩ = some (.int .i64 b.y) := h.at_ (j := 1) rfl
theorem MB.c2 (h : MB w g b) : w.cell? ⟨g, 2, none⟩ = some (.int .i64 b.vx) := h.at_ (j := 2) rfl
theorem MB.c3 (h : MB w g b) : w.cell? ⟨g, 3, none⟩ = some (.int .i64 b.vy) := h.at_ (j := 3) rfl
theorem MB.c4 (h : MB w g b) : w.cell? ⟨g, 4, none⟩ = some (.int .i64 b.life) := h.at_ (j := 4) rfl
theorem MB.c5 (h : MB w g b) : w.cell? ⟨g, 5, none⟩ = some (.int .i64 b.cool) := h.at_ (j := 5) rfl
theorem MB.c6 (h : MB w g b) : w.cell? ⟨g, 6, none⟩ = some (.int .i64 b.facing) := h.at_ (j := 6) rfl
theorem MB.fz (h : MB w g b) (j : Nat) : w.frozen? ⟨g, j, none⟩ = false := Blk.frozen h j
theorem MB.below {B : Nat} (h : MB w g b) (hb : Below B w w') (hg : g < B) : MB w' g b := Blk.below h hb hg
theorem MB.drew (h : MB w g b) : MB w.drew g b := h
theorem MB.x (h : MB w g b) (z : Int) : MB (w.setCell ⟨g, 0, none⟩ (.int .i64 z)) g { b with x := z } := Blk.set_ h 0 _
theorem MB.y (h : MB w g b) (z : Int) : MB (w.setCell ⟨g, 1, none⟩ (.int .i64 z)) g { b with y := z } := Blk.set_ h 1 _
theorem MB.vx (h : MB w g b) (z : Int) : MB (w.setCell ⟨g, 2, none⟩ (.int .i64 z)) g { b with vx := z } := Blk.set_ h 2 _
theorem MB.vy (h : MB w g b) (z : Int) : MB (w.setCell ⟨g, 3, none⟩ (.int .i64 z)) g { b with vy := z } := Blk.set_ h 3 _
theorem MB.life (h : MB w g b) (z : Int) : MB (w.setCell ⟨g, 4, none⟩ (.int .i64 z)) g { b with life := z } := Blk.set_ h 4 _
theorem MB.cool (h : MB w g b) (z : Int) : MB (w.setCell ⟨g, 5, none⟩ (.int .i64 z)) g { b with cool := z } := Blk.set_ h 5 _
theorem MB.facing (h : MB w g b) (z : Int) : MB (w.setCell ⟨g, 6, none⟩ (.int .i64 z)) g { b with facing := z } := Blk.set_ h 6 _
theorem MB.new (w : World) (b : Body) : MB (w.alloc (.cells (bodL b).toArray 26)) w.heap.size b := Blk.new _ _ _
theorem MB.alloc (h : MB w g b) (o : Obj) : MB (w.alloc o) g b := Blk.alloc h o
end

set_option maxRecDepth 100000 in
set_option maxHeartbeats 4000000 in
theorem rmove_any (w : World) (n : Nat) (b : Body) (hn : n < 65536) (hb : BodyOk b) :
    Calls Try.prog 101 #[bodV b, .int .u16 n] w fun e w' => e = .returned (bodV (moveB b n)) ∧ Below w.heap.size w w' := by
  have p1 := Lib.hid (fun w => has_any w n 1 hn (by omega) (by omega))
  have p2 := Lib.hid (fun w => has_any w n 2 hn (by omega) (by omega))
  have p4 := Lib.hid (fun w => has_any w n 4 hn (by omega) (by omega))
  obtain ⟨cs, hcs, hv⟩ : ∃ cs, cs = (bodL b).toArray ∧ bodV b = .agg cs := ⟨_, rfl, rfl⟩
  rw [hv]
  obtain ⟨W1, hW1⟩ : ∃ W1, W1 = (w.alloc (.cells cs 26)).alloc (.cells #[.int .i64 0, .int .i64 0, .int .i64 0, .int .i64 0, .int .i64 0, .int .i64 0, .int .i64 0] 26) := ⟨_, rfl⟩
  have hM : MB W1 w.heap.size b := by rw [hW1, hcs]; exact (MB.new w b).alloc _
  have hR : MB W1 (w.heap.size + 1) ⟨0, 0, 0, 0, 0, 0, 0⟩ := by
    rw [hW1]
    have := MB.new (w.alloc (.cells cs 26)) ⟨0, 0, 0, 0, 0, 0, 0⟩
    simpa [bodL] using this
  have hB : Below w.heap.size w W1 := by rw [hW1]; exact ((Below.refl _ _).alloc (Nat.le_refl _) _).alloc (by simp) _
  clear hcs hv
  have HM := Lib.hid hM
  have HR := Lib.hid hR
  have HB := Lib.hid hB
  clear hM hR hB
  go_enter Try.func101, Try.ntmps101
  go_upto_region 1 with fail
  rw [← hW1]
  clear hW1
  go_wp2_with fail
  refine (p1.out _).mono ?_
  rintro e w2 ⟨rfl, rfl⟩
  go_wp2_with fail
  refine (p2.out _).mono ?_
  rintro e w2 ⟨rfl, rfl⟩
  go_upto_if 14 with fail
  go_cut [5, 6] (fun v5 v6 wx => MB wx w.heap.size (walkB b n) ∧ MB wx (w.heap.size + 1) ⟨0, 0, 0, 0, 0, 0, 0⟩ ∧ Below w.heap.size w wx)
  case first =>
    have c2 := HM.out.c2
    have c6 := HM.out.c6
    have x2 := HM.out.fz 2
    have x6 := HM.out.fz 6
    have hv0 := hb.vx0
    have hv1 := hb.vx1
    by_cases h1 : n % 2 = n / 2 % 2
    · have E := Lib.hid (show walkB b n = { b with vx := mulV b.vx } by unfold walkB; rw [if_pos h1])
      have e : (decide (n % 2 = 1) == decide (n / 2 % 2 = 1)) = true := by rw [h1]; simp
      rw [e]
      have pM := Lib.hid (fun w => rmul_any w b.vx hv0 hv1)
      generalize mulV b.vx = q at *
      clear e h1
      go_wp2_with fail
      refine (pM.out _).mono ?_
      rintro e w2 ⟨rfl, bm⟩
      have M2 := HM.out.below bm (Blk.lt HM.out)
      have d2 := M2.c2
      have f2 := M2.fz 2
      have R2 := HR.out.below bm (Blk.lt HR.out)
      have B2 := HB.out.trans (bm.mono HB.out.size)
      go_wp2_with fail
      go_meet
      exact ⟨by rw [E.out]; exact M2.vx _, Blk.far R2 (by simp) _, B2.setCell (by simp) _⟩
    · have hz : (n % 2 = 1 ∧ n / 2 % 2 = 0) ∨ (n % 2 = 0 ∧ n / 2 % 2 = 1) := by omega
      have hh0 := hold_bd (b.vx + -16384)
      have hh1 := hold_bd (b.vx + 16384)
      rcases hz with ⟨h, h'⟩ | ⟨h, h'⟩
      · have E := Lib.hid (show walkB b n = { b with facing := -1, vx := clampV (hold (b.vx + -16384)) (-196608) 196608 } by unfold walkB; rw [if_neg h1, if_pos h])
        have e1 : decide (n % 2 = 1) = true := by rw [h]; rfl
        have e2 : decide (n / 2 % 2 = 1) = false := by rw [h']; rfl
        rw [e1, e2]
        have pA := Lib.hid (fun w => Num.add_any w b.vx (-16384) (by omega) (by omega) (by omega) (by omega))
        generalize hold (b.vx + -16384) = q at *
        have pC := Lib.hid (fun w => rclamp_any w q (-196608) 196608 (by omega))
        clear e1 e2 h h' h1
        go_wp2_with fail
        have M1 := (HM.out.facing 1).facing (-1)
        have R1 := Blk.far (Blk.far HR.out (p := ⟨w.heap.size, 6, none⟩) (by simp) (.int .i64 1)) (p := ⟨w.heap.size, 6, none⟩) (by simp) (.int .i64 (-1))
        have B1 := (HB.out.setCell (p := ⟨w.heap.size, 6, none⟩) (by simp) (.int .i64 1)).setCell (p := ⟨w.heap.size, 6, none⟩) (by simp) (.int .i64 (-1))
        refine (pA.out _).mono ?_
        rintro e w2 ⟨rfl, bm⟩
        have M2 := M1.below bm (Blk.lt M1)
        have d2 := M2.c2
        have f2 := M2.fz 2
        have R2 := R1.below bm (Blk.lt R1)
        have B2 := B1.trans (bm.mono B1.size)
        go_wp2_with fail
        refine (pC.out _).mono ?_
        rintro e w3 ⟨rfl, rfl⟩
        go_wp2_with fail
        go_meet
        exact ⟨by rw [E.out]; exact M2.vx _, Blk.far R2 (by simp) _, B2.setCell (by simp) _⟩
      · have E := Lib.hid (show walkB b n = { b with facing := 1, vx := clampV (hold (b.vx + 16384)) (-196608) 196608 } by unfold walkB; rw [if_neg h1, if_neg (by omega)])
        have e1 : decide (n % 2 = 1) = false := by rw [h]; rfl
        have e2 : decide (n / 2 % 2 = 1) = true := by rw [h']; rfl
        rw [e1, e2]
        have pA := Lib.hid (fun w => Num.add_any w b.vx 16384 (by omega) (by omega) (by omega) (by omega))
        generalize hold (b.vx + 16384) = q at *
        have pC := Lib.hid (fun w => rclamp_any w q (-196608) 196608 (by omega))
        clear e1 e2 h h' h1
        go_wp2_with fail
        have M1 := HM.out.facing 1
        have R1 := Blk.far HR.out (p := ⟨w.heap.size, 6, none⟩) (by simp) (.int .i64 1)
        have B1 := HB.out.setCell (p := ⟨w.heap.size, 6, none⟩) (by simp) (.int .i64 1)
        refine (pA.out _).mono ?_
        rintro e w2 ⟨rfl, bm⟩
        have M2 := M1.below bm (Blk.lt M1)
        have d2 := M2.c2
        have f2 := M2.fz 2
        have R2 := R1.below bm (Blk.lt R1)
        have B2 := B1.trans (bm.mono B1.size)
        go_wp2_with fail
        refine (pC.out _).mono ?_
        rintro e w3 ⟨rfl, rfl⟩
        go_wp2_with fail
        go_meet
        exact ⟨by rw [E.out]; exact M2.vx _, Blk.far R2 (by simp) _, B2.setCell (by simp) _⟩
  case rest =>
    obtain ⟨M1, R1, B1⟩ := hcut
    have HM := Lib.hid M1
    have HR := Lib.hid R1
    have HB := Lib.hid B1
    clear M1 R1 B1
    have hb1 := walkB_ok hb n
    have HMB := Lib.hid (show moveB b n = slideB (fallB (walkB b n) n) from rfl)
    clear p1 p2
    generalize walkB b n = b1 at *
    have c1 := HM.out.c1
    go_upto_region 8 with fail
    go_cut [36] (fun v wx => v = .bool (decide (n / 4 % 2 = 1 ∧ b1.y = 0)) ∧ MB wx w.heap.size b1 ∧ MB wx (w.heap.size + 1) ⟨0, 0, 0, 0, 0, 0, 0⟩ ∧ Below w.heap.size w wx)
    case first =>
      by_cases h4 : n / 4 % 2 = 1
      · have e4 : decide (n / 4 % 2 = 1) = true := by rw [h4]; rfl
        rw [e4] at p4
        have E := Lib.hid (show Value.bool (b1.y == 0) = .bool (decide (n / 4 % 2 = 1 ∧ b1.y = 0)) by
          by_cases hy : b1.y = 0
          · simp [h4, hy]
          · simp [h4, hy])
        generalize decide (n / 4 % 2 = 1 ∧ b1.y = 0) = dd at *
        clear e4 h4
        go_wp2_with fail
        refine (p4.out _).mono ?_
        rintro e w2 ⟨rfl, rfl⟩
        go_wp2_with fail
        go_meet
        exact ⟨E.out, HM.out, HR.out, HB.out⟩
      · have e4 : decide (n / 4 % 2 = 1) = false := by simpa using h4
        rw [e4] at p4
        have E := Lib.hid (show Value.bool false = .bool (decide (n / 4 % 2 = 1 ∧ b1.y = 0)) by simp [h4])
        generalize decide (n / 4 % 2 = 1 ∧ b1.y = 0) = dd at *
        clear e4 h4
        go_wp2_with fail
        refine (p4.out _).mono ?_
        rintro e w2 ⟨rfl, rfl⟩
        go_wp2_with fail
        go_meet
        exact ⟨E.out, HM.out, HR.out, HB.out⟩
    case rest =>
      obtain ⟨rfl, M1, R1, B1⟩ := hcut
      clear HM HR HB p4
      have HM := Lib.hid M1
      have HR := Lib.hid R1
      have HB := Lib.hid B1
      have c3 := M1.c3
      have f3 := M1.fz 3
      clear M1 R1 B1 c1
      go_upto_if 36 with fail
      go_cut [36] (fun v36 wx => MB wx w.heap.size { b1 with vy := jumpV b1 n } ∧ MB wx (w.heap.size + 1) ⟨0, 0, 0, 0, 0, 0, 0⟩ ∧ Below w.heap.size w wx)
      case first =>
        by_cases hj : n / 4 % 2 = 1 ∧ b1.y = 0
        · have E := Lib.hid (show jumpV b1 n = 327680 by unfold jumpV; rw [if_pos hj])
          have e : decide (n / 4 % 2 = 1 ∧ b1.y = 0) = true := by simpa using hj
          rw [e]
          clear hj e
          go_wp2_with fail
          go_meet
          exact ⟨by rw [E.out]; exact HM.out.vy 327680, Blk.far HR.out (by simp) _, HB.out.setCell (by simp) _⟩
        · have E := Lib.hid (show jumpV b1 n = b1.vy by unfold jumpV; rw [if_neg hj])
          have e : decide (n / 4 % 2 = 1 ∧ b1.y = 0) = false := by simpa using hj
          rw [e]
          clear hj e
          go_wp2_with fail
          go_meet
          exact ⟨by rw [E.out]; exact HM.out, HR.out, HB.out⟩
      case rest =>
        obtain ⟨M1, R1, B1⟩ := hcut
        clear HM HR HB c3 f3
        have HM := Lib.hid M1
        have HR := Lib.hid R1
        have HB := Lib.hid B1
        have c1 := M1.c1
        have c3 := M1.c3
        clear M1 R1 B1
        dsimp only at c1 c3
        have HD : ∃ q, q = dropV b1 n := ⟨_, rfl⟩
        have hj := jumpV_in hb1 n
        have hdv := dropV_in hb1 n
        have ED := Lib.hid (show dropV b1 n = if 0 < b1.y ∨ jumpV b1 n ≠ 0 then hold (jumpV b1 n - 21845) else jumpV b1 n from rfl)
        have EF := Lib.hid (show fallB b1 n = if hold (b1.y + dropV b1 n) ≤ 0 then { b1 with y := 0, vy := 0 } else { b1 with y := hold (b1.y + dropV b1 n), vy := dropV b1 n } from rfl)
        clear HD
        have hfb := fallB_ok hb1 n
        generalize fallB b1 n = fb at *
        generalize dropV b1 n = dv at *
        generalize jumpV b1 n = jv at *
        go_upto_region 10 with fail
        go_cut [45] (fun v wx => v = .bool (decide (0 < b1.y ∨ jv ≠ 0)) ∧ wx = wc)
        case first =>
          by_cases hy : 0 < b1.y
          · have e : (Value.bool true) = .bool (decide (0 < b1.y ∨ jv ≠ 0)) := by simp [hy]
            have E := Lib.hid e
            generalize decide (0 < b1.y ∨ jv ≠ 0) = dd at *
            clear e
            go_wp2_with fail
            go_meet
            exact ⟨E.out, rfl⟩
          · by_cases hz : jv = 0
            · have hz' : (jv == 0) = true := by simpa using hz
              have e : (Value.bool (jv != 0)) = .bool (decide (0 < b1.y ∨ jv ≠ 0)) := by simp [hy, hz]
              have E := Lib.hid e
              generalize decide (0 < b1.y ∨ jv ≠ 0) = dd at *
              clear e hz
              go_wp2_with fail
              go_meet
              exact ⟨E.out, rfl⟩
            · have hz' : (jv == 0) = false := by simpa using hz
              have e : (Value.bool (jv != 0)) = .bool (decide (0 < b1.y ∨ jv ≠ 0)) := by simp [hy, hz]
              have E := Lib.hid e
              generalize decide (0 < b1.y ∨ jv ≠ 0) = dd at *
              clear e hz
              go_wp2_with fail
              go_meet
              exact ⟨E.out, rfl⟩
        case rest =>
          obtain ⟨rfl, rfl⟩ := hcut
          clear c1
          go_upto_if 45 with fail
          go_cut [45] (fun v45 wx => MB wx w.heap.size { b1 with vy := dv } ∧ MB wx (w.heap.size + 1) ⟨0, 0, 0, 0, 0, 0, 0⟩ ∧ Below w.heap.size w wx)
          case first =>
            by_cases hh : 0 < b1.y ∨ jv ≠ 0
            · have E := Lib.hid (show dv = hold (jv - 21845) by rw [ED.out, if_pos hh])
              have e : decide (0 < b1.y ∨ jv ≠ 0) = true := by simpa using hh
              rw [e]
              have pS := Lib.hid (fun w => Num.sub_any w jv 21845 hj.1 hj.2 (by omega) (by omega))
              generalize hold (jv - 21845) = q at *
              clear e hh
              go_wp2_with fail
              refine (pS.out _).mono ?_
              rintro e w2 ⟨rfl, bm⟩
              have M2 := HM.out.below bm (Blk.lt HM.out)
              have d2 := M2.c3
              have f2 := M2.fz 3
              have R2 := HR.out.below bm (Blk.lt HR.out)
              have B2 := HB.out.trans (bm.mono HB.out.size)
              go_wp2_with fail
              go_meet
              exact ⟨by rw [E.out]; exact M2.vy _, Blk.far R2 (by simp) _, B2.setCell (by simp) _⟩
            · have E := Lib.hid (show dv = jv by rw [ED.out, if_neg hh])
              have e : decide (0 < b1.y ∨ jv ≠ 0) = false := by simpa using hh
              rw [e]
              clear e hh
              go_wp2_with fail
              go_meet
              exact ⟨by rw [E.out]; exact HM.out, HR.out, HB.out⟩
          case rest =>
            obtain ⟨M1, R1, B1⟩ := hcut
            clear HM HR HB c3
            have HM := Lib.hid M1
            have HR := Lib.hid R1
            have HB := Lib.hid B1
            have c1 := M1.c1
            have c3 := M1.c3
            clear M1 R1 B1
            dsimp only at c1 c3
            have hy0 := hb1.y0
            have hy1 := hb1.y1
            have pA := Lib.hid (fun w => Num.add_any w b1.y dv (by omega) (by omega) hdv.1 hdv.2)
            generalize hold (b1.y + dv) = q at *
            go_wp2_with fail
            refine (pA.out _).mono ?_
            rintro e w2 ⟨rfl, bm⟩
            have M2 := HM.out.below bm (Blk.lt HM.out)
            have d1 := M2.c1
            have d3 := M2.c3
            have f1 := M2.fz 1
            have f3 := M2.fz 3
            have R2 := HR.out.below bm (Blk.lt HR.out)
            have B2 := HB.out.trans (bm.mono HB.out.size)
            have M3 := Lib.hid (M2.y q)
            have R3 := Lib.hid (Blk.far R2 (p := ⟨w.heap.size, 1, none⟩) (by simp) (.int .i64 q))
            have B3 := Lib.hid (B2.setCell (p := ⟨w.heap.size, 1, none⟩) (by simp) (.int .i64 q))
            clear M2 R2 B2 c1 c3
            go_upto_if 58 with fail
            go_cut [58] (fun v58 wx => MB wx w.heap.size fb ∧ MB wx (w.heap.size + 1) ⟨0, 0, 0, 0, 0, 0, 0⟩ ∧ Below w.heap.size w wx)
            case first =>
              by_cases hh : q ≤ 0
              · have E := Lib.hid (show fb = { b1 with y := 0, vy := 0 } by rw [EF.out, if_pos hh])
                go_wp2_with fail
                go_meet
                exact ⟨by rw [E.out]; exact (M3.out.y 0).vy 0, Blk.far (Blk.far R3.out (by simp) _) (by simp) _, (B3.out.setCell (by simp) _).setCell (by simp) _⟩
              · have E := Lib.hid (show fb = { b1 with y := q, vy := dv } by rw [EF.out, if_neg hh])
                go_wp2_with fail
                go_meet
                exact ⟨by rw [E.out]; exact M3.out, R3.out, B3.out⟩
            case rest =>
              obtain ⟨M1, R1, B1⟩ := hcut
              clear HM HR HB M3 R3 B3 d1 d3 f1 f3 EF ED pA
              have HM := Lib.hid M1
              have HR := Lib.hid R1
              have HB := Lib.hid B1
              have c0 := M1.c0
              have c2 := M1.c2
              clear M1 R1 B1
              have x0 := hfb.x0
              have x1 := hfb.x1
              have v0 := hfb.vx0
              have v1 := hfb.vx1
              have pA := Lib.hid (fun w => Num.add_any w fb.x fb.vx (by omega) (by omega) (by omega) (by omega))
              have EL := Lib.hid (show slideB fb = if clampV (hold (fb.x + fb.vx)) 0 13107200 = hold (fb.x + fb.vx) then { fb with x := clampV (hold (fb.x + fb.vx)) 0 13107200 } else { fb with x := clampV (hold (fb.x + fb.vx)) 0 13107200, vx := 0 } from rfl)
              generalize hold (fb.x + fb.vx) = z at *
              have pC := Lib.hid (fun w => rclamp_any w z 0 13107200 (by omega))
              generalize clampV z 0 13107200 = cz at *
              go_wp2_with fail
              refine (pA.out _).mono ?_
              rintro e w3 ⟨rfl, bm⟩
              have M2 := HM.out.below bm (Blk.lt HM.out)
              have d0 := M2.c0
              have d2 := M2.c2
              have f0 := M2.fz 0
              have f2 := M2.fz 2
              have R2 := HR.out.below bm (Blk.lt HR.out)
              have B2 := HB.out.trans (bm.mono HB.out.size)
              have M3 := Lib.hid (M2.x cz)
              have R3 := Lib.hid (Blk.far R2 (p := ⟨w.heap.size, 0, none⟩) (by simp) (.int .i64 cz))
              have B3 := Lib.hid (B2.setCell (p := ⟨w.heap.size, 0, none⟩) (by simp) (.int .i64 cz))
              clear M2 R2 B2 c0 c2
              go_wp2_with fail
              refine (pC.out _).mono ?_
              rintro e w4 ⟨rfl, rfl⟩
              go_upto_if 72 with fail
              go_cut [72] (fun v72 wx => MB wx w.heap.size (slideB fb) ∧ MB wx (w.heap.size + 1) ⟨0, 0, 0, 0, 0, 0, 0⟩ ∧ Below w.heap.size w wx)
              case first =>
                by_cases hh : cz = z
                · have E := Lib.hid (show slideB fb = { fb with x := cz } by rw [EL.out, if_pos hh])
                  have hz' : (z != cz) = false := by simp [hh]
                  clear hh
                  go_wp2_with fail
                  go_meet
                  exact ⟨by rw [E.out]; exact M3.out, R3.out, B3.out⟩
                · have E := Lib.hid (show slideB fb = { fb with x := cz, vx := 0 } by rw [EL.out, if_neg hh])
                  have hz' : (z != cz) = true := by simpa using fun e => hh e.symm
                  have hz2 : (z == cz) = false := by simpa using fun e => hh e.symm
                  clear hh
                  go_wp2_with fail
                  go_meet
                  exact ⟨by rw [E.out]; exact M3.out.vx 0, Blk.far R3.out (by simp) _, B3.out.setCell (by simp) _⟩
              case rest =>
                obtain ⟨M1, R1, B1⟩ := hcut
                rw [← HMB.out] at M1
                obtain ⟨mb, hmb⟩ : ∃ mb, moveB b n = mb := ⟨_, rfl⟩
                rw [hmb] at M1
                have HMM := Lib.hid hmb
                clear hmb HMB
                have c0 := M1.c0
                have c1 := M1.c1
                have c2 := M1.c2
                have c3 := M1.c3
                have c4 := M1.c4
                have c5 := M1.c5
                have c6 := M1.c6
                have r0 := R1.c0
                have r1 := R1.c1
                have r2 := R1.c2
                have r3 := R1.c3
                have r4 := R1.c4
                have r5 := R1.c5
                have r6 := R1.c6
                have g0 := R1.fz 0
                have g1 := R1.fz 1
                have g2 := R1.fz 2
                have g3 := R1.fz 3
                have g4 := R1.fz 4
                have g5 := R1.fz 5
                have g6 := R1.fz 6
                have HB9 := Lib.hid B1
                clear M1 R1 B1 d0 d2 f0 f2
                go_wp2_with fail
                refine bodyPost_ret (v := bodV mb) (by simp [results, Try.results101, go_sem, r0, r1, r2, r3, r4, r5, r6, bodV, bodL]) rfl ⟨by rw [HMM.out], ?_⟩
                repeat (refine Below.setCell ?_ (by simp) _)
                exact HB9.out
end Go.Proofs.Ytblnfkhaicjeaaa.Gm
