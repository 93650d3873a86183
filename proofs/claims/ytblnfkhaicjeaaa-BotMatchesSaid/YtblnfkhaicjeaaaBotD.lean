/-
  Does a shot come near a player? The document's answer.
-/
import Derived.Test.YtblnfkhaicjeaaaBotC
import Derived.Deep.QuietTactic
import Derived.BigQuiet
namespace Go.Proofs.Ytblnfkhaicjeaaa.Bot
open Go.RowKit Go.Proofs.Ytblnfkhaicjeaaa.Num Go.Proofs.Ytblnfkhaicjeaaa.Gm Go.Proofs.Ytblnfkhaicjeaaa.Byt
set_option linter.all false

theorem below_drewN' (w : World) (n : Nat) : Below w.heap.size w (w.drewN n) := below_drewN (Below.refl _ w) n

set_option maxRecDepth 100000 in
set_option maxHeartbeats 8000000 in
theorem rdanger_any (w : World) (C : Array Value) (f : F) (who : Nat) (LC : Let C f) (hw : Wf f) (hwho : who < 2) :
    Calls Try.prog 69 #[.agg C, .int .i64 who] w fun e w' => e = .returned (.bool (dangerV f who)) ∧ Below w.heap.size w w' := by
  obtain ⟨W1, hW1⟩ : ∃ W1, W1 = w.alloc (.cells C 33) := ⟨_, rfl⟩
  have hS : SB W1 w.heap.size 33 f := by rw [hW1]; exact LC.sb (Blk.new _ _ _)
  have hB : Below w.heap.size w W1 := by rw [hW1]; exact (Below.refl _ w).alloc (Nat.le_refl _) _
  have hz : w.heap.size + 1 = W1.heap.size := by rw [hW1]; simp
  have hfit := body_fit hw (2 + who * 7) (by omega)
  have hrB := hS.bodR hwho
  have HK := Lib.hid (show ∀ k, dangerK f who (k + 1) = (dangerK f who k || dangV (sho f (16 + k * 6)) (bod f (2 + who * 7)) who) from fun _ => rfl)
  obtain ⟨b, hb⟩ : ∃ b, bod f (2 + who * 7) = b := ⟨_, rfl⟩
  rw [hb] at hrB hfit HK
  obtain ⟨Lb, hLb⟩ : ∃ Lb, Lb = bodL b := ⟨_, rfl⟩
  rw [← hLb] at hrB
  have hLs : Lb.length = 7 := by rw [hLb]; rfl
  have hiB : (Try.prog.info? 26).map (·.size) = some Lb.length := by rw [hLs]; exact infoB
  have HA := Lib.hid (fun W => alloc_body W Lb b hLb)
  have w1 : (0 : Int) ≤ (who : Int) := by omega
  have w2 : (who : Int) < 2 := by omega
  have HW := Lib.hid hw
  have HS := Lib.hid hS
  have HB := Lib.hid hB
  have HZ := Lib.hid hz
  have HF := Lib.hid hfit
  clear hS hB hb hLb hz hw hwho hfit LC
  go_enter Try.func69, Try.ntmps69
  go_upto_region 1 with fail
  rw [← hW1]
  clear hW1
  obtain ⟨W2, hrun, M2, b2, hz2⟩ := HA.out W1
  have S2 := HS.out.below b2 HS.out.lt
  have B2 := HB.out.trans (b2.mono (by have := HZ.out; omega))
  clear HA
  go_upto_region 2 with (refine wpList_load_mid (by rfl) 26 _ (by rfl) w.heap.size (2 + who * 7) (by rfl) Lb _ hrB Try.underlying26 (by rfl) hiB ?_)
  clear hrun hrB hiB b2 hz2 HS HB hLs
  generalize W1.heap.size = gb at *
  have HGB := Lib.hid (show w.heap.size < gb by have := HZ.out; omega)
  clear HZ
  have H2 := Lib.hid (⟨rfl, S2, M2, B2⟩ : dangerK f who 0 = false ∧ SB W2 w.heap.size 33 f ∧ MB W2 gb b ∧ Below w.heap.size w W2)
  clear S2 M2 B2
  go_wp2_with fail
  go_loopw [6] (fun kv wr => ∃ k : Nat, k ≤ 8 ∧ kv = .int .i64 k ∧ dangerK f who k = false ∧ SB wr w.heap.size 33 f ∧ MB wr gb b ∧ Below w.heap.size w wr) (fun kv _ => 8 - (intOf kv).toNat)
  case atStart => exact ⟨0, by omega, rfl, H2.out⟩
  case round =>
    clear H2
    obtain ⟨k, hk, rfl, hd, hS, hM, hBr⟩ := hrel
    by_cases hlt : k < 8
    · have k1 : (0 : Int) ≤ (k : Int) := by omega
      have k2 : (k : Int) < 8 := by omega
      have hx := hS.shoR hlt
      have hin := dang_in HW.out (16 + k * 6) (by omega)
      have HK1 := Lib.hid (HK.out k)
      obtain ⟨s, hs⟩ : ∃ s, sho f (16 + k * 6) = s := ⟨_, rfl⟩
      rw [hs] at hx hin HK1
      obtain ⟨Ls, hLs⟩ : ∃ Ls, Ls = shoL s := ⟨_, rfl⟩
      rw [← hLs] at hx
      obtain ⟨W4, hrun, X4, b4, hz4⟩ := alloc_shot wr Ls s hLs
      have hLs6 : Ls.length = 6 := by rw [hLs]; rfl
      have HD := Lib.hid hd
      have hiS : (Try.prog.info? 29).map (·.size) = some Ls.length := by rw [hLs6]; exact infoS
      have S4 := hS.below b4 hS.lt
      have M4 := MB.below hM b4 (Blk.lt hM)
      have B4 := hBr.trans (b4.mono hBr.size)
      have HKL := Lib.hid hlt
      clear hs hLs hd hz4 b4 hS hM hBr hlt
      go_upto_region 6 with (refine wpList_load_mid (by rfl) 29 _ (by rfl) w.heap.size (16 + k * 6) (by rfl) Ls _ hx Try.underlying29 (by rfl) hiS ?_)
      clear hrun hx hLs6 hiS
      generalize wr.heap.size = gx at *
      have c0 := X4.c0
      have c1 := X4.c1
      have c2 := X4.c2
      have c3 := X4.c3
      have c4 := X4.c4
      have m0 := M4.c0
      have m1 := M4.c1
      have HS4 := Lib.hid S4
      have HM4 := Lib.hid M4
      have HB4 := Lib.hid B4
      clear X4 S4 M4 B4
      have HV := Lib.hid (show dangV s b who = (onB s.on && decide (s.owner ≠ who) && (comesV s b && nearV s.x b.x 1966080 && nearV s.y (hold (b.y + 65536)) 393216)) from rfl)
      go_cut [8] (fun v wx => v = .bool (comesV s b) ∧ wx = W4)
      case first =>
        have HC := Lib.hid (show comesV s b = ((decide (0 < s.vx) && decide (s.x ≤ b.x)) || (decide (s.vx < 0) && decide (b.x ≤ s.x))) from rfl)
        clear hin c0 c2 c4 m1
        by_cases v0 : 0 < s.vx
        · have v1 : ¬ s.vx < 0 := by omega
          by_cases x0 : s.x ≤ b.x
          · go_wp2_with fail
            go_meet
            exact ⟨by rw [HC.out]; simp [v0, v1, x0], by first | rfl | trivial⟩
          · go_wp2_with fail
            go_meet
            exact ⟨by rw [HC.out]; simp [v0, v1, x0] <;> omega, by first | rfl | trivial⟩
        · by_cases v1 : s.vx < 0
          · by_cases x0 : b.x ≤ s.x
            · go_wp2_with fail
              go_meet
              exact ⟨by rw [HC.out]; simp [v0, v1, x0], by first | rfl | trivial⟩
            · go_wp2_with fail
              go_meet
              exact ⟨by rw [HC.out]; simp [v0, v1, x0] <;> omega, by first | rfl | trivial⟩
          · go_wp2_with fail
            go_meet
            exact ⟨by rw [HC.out]; simp [v0, v1] <;> omega, by first | rfl | trivial⟩
      case rest =>
        obtain ⟨rfl, rfl⟩ := hcut
        have hhy := hold_bd (b.y + 65536)
        have hbx0 := HF.out.x0
        have hbx1 := HF.out.x1
        have hby0 := HF.out.y0
        have hby1 := HF.out.y1
        obtain ⟨⟨sx0, sx1⟩, sy0, sy1⟩ := hin
        have cN1 := regrown wc (v := .int .i64 (farV s.x b.x)) (fun W _ => rfar_any W s.x b.x sx0 sx1 hbx0 hbx1)
        have cA := regrown wc (v := .int .i64 (hold (b.y + 65536))) (fun W _ => Num.add_any W b.y 65536 hby0 hby1 (by omega) (by omega))
        generalize hold (b.y + 65536) = yv at *
        have cN2 := regrown wc (v := .int .i64 (farV s.y yv)) (fun W _ => rfar_any W s.y yv sy0 sy1 hhy.1 hhy.2)
        have d1 := cell_regrown c1
        have d2 := cell_regrown c2
        have d3 := cell_regrown m0
        have d4 := cell_regrown m1
        have d5 := cell_regrown c0
        have d6 := cell_regrown c4
        clear c1 c2 c3 m0 m1 sx0 sx1 sy0 sy1 hhy hbx0 hbx1 hby0 hby1
        obtain ⟨fx, hfx⟩ : ∃ fx, farV s.x b.x = fx := ⟨_, rfl⟩
        obtain ⟨fy, hfy⟩ : ∃ fy, farV s.y yv = fy := ⟨_, rfl⟩
        rw [show nearV s.x b.x 1966080 = decide (farV s.x b.x ≤ 1966080) from rfl, show nearV s.y yv 393216 = decide (farV s.y yv ≤ 393216) from rfl] at HV
        rw [hfx] at cN1 HV
        rw [hfy] at cN2 HV
        clear hfx hfy
        generalize comesV s b = CM at *
        generalize onB s.on = ON at *
        obtain ⟨ow, how⟩ : ∃ ow, s.owner = ow := ⟨_, rfl⟩
        rw [how] at d6 c4 HV
        clear how
        go_upto_region 7 with fail
        go_cut [70] (fun v wx => v = .bool (ON && decide (ow ≠ who) && (CM && decide (fx ≤ 1966080) && decide (fy ≤ 393216))) ∧ RowKit.Below wc.heap.size wc wx)
        case first =>
          cases ON
          · go_quiet (fail)
            have hb9 := fun n => below_drewN' wc n
            go_wp2_with fail
            go_meet
            exact ⟨by first | rfl | trivial | (simp; done) | (simp [hq]; done) | (simp [g1]; done) | (simp [hq, g1]; done) | (simp [hq, g1]; omega), hb9 _⟩
          · by_cases hq : ow = who
            · have hq1 : (ow == (who : Int)) = true := by simpa using hq
              have hq2 : (!(ow == (who : Int))) = false := by simp [hq]
              have hq3 : (ow != (who : Int)) = false := by simp [hq]
              go_quiet (fail)
              have hb9 := fun n => below_drewN' wc n
              go_wp2_with fail
              go_meet
              exact ⟨by first | rfl | trivial | (simp; done) | (simp [hq]; done) | (simp [g1]; done) | (simp [hq, g1]; done) | (simp [hq, g1]; omega), hb9 _⟩
            · have hq1 : (ow == (who : Int)) = false := by simpa using hq
              have hq2 : (!(ow == (who : Int))) = true := by simp [hq]
              have hq3 : (ow != (who : Int)) = true := by simp [hq]
              cases CM
              · go_quiet (fail)
                have hb9 := fun n => below_drewN' wc n
                go_wp2_with fail
                go_meet
                exact ⟨by first | rfl | trivial | (simp; done) | (simp [hq]; done) | (simp [g1]; done) | (simp [hq, g1]; done) | (simp [hq, g1]; omega), hb9 _⟩
              · by_cases g1 : fx ≤ 1966080
                · have g1' : decide (fx ≤ 1966080) = true := by simpa using g1
                  refine wp_region_quiet_below (by kernel_rfl) (by kernel_rfl) ?_
                  repeat (first | go_big_quiet_step (fail) | quiet_step (fail))
                  quiet_step (exact cN1 _ _)
                  repeat (first | go_big_quiet_step (fail) | quiet_step (fail))
                  quiet_step (exact cA _ _)
                  repeat (first | go_big_quiet_step (fail) | quiet_step (fail))
                  quiet_step (exact cN2 _ _)
                  repeat (first | go_big_quiet_step (fail) | quiet_step (fail))
                  refine wpQuiet_nil ?_
                  intro W9 hw'
                  obtain ⟨⟨dq, osq⟩, hw''⟩ := hw'
                  have hb9 : Below wc.heap.size wc W9 := by rw [hw'']; exact below_regrown _ _ _
                  clear hw''
                  go_wp2_with fail
                  go_meet
                  exact ⟨by first | rfl | trivial | (simp; done) | (simp [hq]; done) | (simp [g1]; done) | (simp [hq, g1]; done) | (simp [hq, g1]; omega), hb9⟩
                · have g1' : decide (fx ≤ 1966080) = false := by simpa using g1
                  refine wp_region_quiet_below (by kernel_rfl) (by kernel_rfl) ?_
                  repeat (first | go_big_quiet_step (fail) | quiet_step (fail))
                  quiet_step (exact cN1 _ _)
                  repeat (first | go_big_quiet_step (fail) | quiet_step (fail))
                  refine wpQuiet_nil ?_
                  intro W9 hw'
                  obtain ⟨⟨dq, osq⟩, hw''⟩ := hw'
                  have hb9 : Below wc.heap.size wc W9 := by rw [hw'']; exact below_regrown _ _ _
                  clear hw''
                  go_wp2_with fail
                  go_meet
                  exact ⟨by first | rfl | trivial | (simp; done) | (simp [hq]; done) | (simp [g1]; done) | (simp [hq, g1]; done) | (simp [hq, g1]; omega), hb9⟩
        case rest =>
          obtain ⟨rfl, b9⟩ := hcut
          have S9 := HS4.out.below b9 HS4.out.lt
          have M9 := MB.below HM4.out b9 (Blk.lt HM4.out)
          have B9 := HB4.out.trans (b9.mono HB4.out.size)
          have hlt := HKL.out
          clear b9 cN1 cN2 cA d1 d2 d3 d4 d5 d6 HS4 HM4 HB4
          have HVV := HV.out
          generalize (ON && decide (ow ≠ who) && (CM && decide (fx ≤ 1966080) && decide (fy ≤ 393216))) = dv at *
          cases dv
          · have HQ := Lib.hid (show dangerK f who (k + 1) = false by rw [HK1.out, HD.out, HVV]; rfl)
            clear HVV HV
            go_wp2_with fail
            go_roundw
            case rel => exact ⟨k + 1, by omega, by go_num, HQ.out, S9, M9, B9⟩
            case measure => simp [intOf]; omega
          · have HQ := Lib.hid (show dangerV f who = true from dangerK_up f who (k := k + 1) (by rw [HK1.out, HVV]; simp) 8 (by omega))
            clear HVV HV
            go_wp2_with fail
            go_ret
            exact ⟨ret_bool HQ.out.symm, B9⟩
    · obtain rfl : k = 8 := by omega
      have HD := Lib.hid (show dangerV f who = false from hd)
      clear hd hlt
      go_wp2_with fail
      go_ret
      exact ⟨ret_bool HD.out.symm, hBr⟩
end Go.Proofs.Ytblnfkhaicjeaaa.Bot
