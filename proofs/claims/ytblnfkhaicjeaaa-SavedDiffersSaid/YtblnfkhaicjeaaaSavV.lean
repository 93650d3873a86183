/-
  backstayref24 by value: Differ. Conditions: both lists lie in memory; numbers without overflow.
-/
import Derived.Test.YtblnfkhaicjeaaaSavT
namespace Go.Proofs.Ytblnfkhaicjeaaa.Sav
open Go.RowKit Go.Sort Go.Proofs.Ytblnfkhaicjeaaa.Gm Go.Proofs.Ytblnfkhaicjeaaa.RingE
set_option linter.all false

theorem tag_snd (f : F) : (tag f).2 = sumL (stB f) := by dsimp only [tag]
theorem atX_map (fb : Int) (fs : List F) (n : Int) (h : atE fb (fs.map tag).length n = 0) : ∃ i : Nat, n = fb + (i : Int) ∧ ∃ hi : i < fs.length, (atX fb (fs.map tag) n).2 = sumL (stB fs[i]) := by
  unfold atE at h
  rw [List.length_map] at h
  have h1 : ¬ n < fb := fun c => by rw [if_pos c] at h; omega
  rw [if_neg h1] at h
  have h2 : ¬ n - fb ≥ (fs.length : Int) := fun c => by rw [if_pos c] at h; omega
  refine ⟨(n - fb).toNat, by omega, by omega, ?_⟩
  unfold atX
  rw [if_neg h1, List.getD_eq_getElem?_getD, List.getElem?_map, List.getElem?_eq_getElem (by omega), Option.map_some, Option.getD_some]
  dsimp only [tag]

set_option maxRecDepth 100000 in
set_option maxHeartbeats 4000000 in
theorem rfdiffer_any (w : World) (rma fa rmb fb : Int) (a b : Option Addr) (fsA fsB : List F) (ca cb : Nat) (hA : StRow w a fsA) (hB : StRow w b fsB) (hca : fsA.length ≤ ca) (hma : ca ≤ maxLen) (hcb : fsB.length ≤ cb) (hmb : cb ≤ maxLen)
    (h0 : 0 ≤ fa) (h1 : fa + fsA.length ≤ 4611686018427387904) (k0 : 0 ≤ fb) (k1 : fb + fsB.length ≤ 4611686018427387904) :
    Calls Try.prog 41 #[refV rma fa a fsA.length ca, refV rmb fb b fsB.length cb] w fun e w' => ∃ L1 L2, e = .returned (.tuple #[.int .i64 L1, .int .i64 L2]) ∧ IsLast (dP fa fb (fsB.map tag)) (dV fa) 0 fsA.length L1 ∧ IsFirst (dQ fa fb (fsA.map tag) (fsB.map tag)) (dV fa) 0 fsA.length L2 ∧ Below w.heap.size w w' := by
  unfold refV
  obtain ⟨W0, hW0⟩ : ∃ W0, W0 = (w.alloc (.cells #[.int .i64 rma, .int .i64 fa, .slice a fsA.length ca] 71)).alloc (.cells #[.int .i64 rmb, .int .i64 fb, .slice b fsB.length cb] 71) := ⟨_, rfl⟩
  have hX : Blk W0 w.heap.size 71 #[.int .i64 rma, .int .i64 fa, .slice a fsA.length ca] := by rw [hW0]; exact (Blk.new _ _ _).alloc _
  have hY : Blk W0 (w.heap.size + 1) 71 #[.int .i64 rmb, .int .i64 fb, .slice b fsB.length cb] := by
    rw [hW0]
    have := Blk.new (w.alloc (.cells #[.int .i64 rma, .int .i64 fa, .slice a fsA.length ca] 71)) 71 #[.int .i64 rmb, .int .i64 fb, .slice b fsB.length cb]
    simpa only [World.size_alloc] using this
  have hB0 : Below w.heap.size w W0 := by rw [hW0]; exact ((Below.refl _ w).alloc (Nat.le_refl _) _).alloc (by simp) _
  have hz : W0.heap.size = w.heap.size + 2 := by rw [hW0]; simp
  have x1 : W0.cell? ⟨w.heap.size, 1, none⟩ = some (.int .i64 fa) := hX.cell 1
  obtain ⟨PL, hPL⟩ : ∃ PL : Nat → Int → Prop, PL = fun k L => IsLast (dP fa fb (fsB.map tag)) (dV fa) 0 k L := ⟨_, rfl⟩
  obtain ⟨PF, hPF⟩ : ∃ PF : Nat → Int → Prop, PF = fun k L => IsFirst (dQ fa fb (fsA.map tag) (fsB.map tag)) (dV fa) 0 k L := ⟨_, rfl⟩
  have HPL := Lib.hid (show ∀ k L, PL k L ↔ IsLast (dP fa fb (fsB.map tag)) (dV fa) 0 k L from fun k L => by rw [hPL])
  have HPF := Lib.hid (show ∀ k L, PF k L ↔ IsFirst (dQ fa fb (fsA.map tag) (fsB.map tag)) (dV fa) 0 k L from fun k L => by rw [hPF])
  have HX := Lib.hid hX
  have HY := Lib.hid hY
  have HB0 := Lib.hid hB0
  have HZ := Lib.hid hz
  clear hX hY hB0 hz
  go_enter Try.func41, Try.ntmps41
  go_upto_region 2 with fail
  skip
  rw [← hW0]
  clear hW0
  go_wp2_with fail
  go_loopw [6, 7, 8] (fun l f n wr => ∃ k : Nat, k ≤ fsA.length ∧ n = .int .i64 (fa + (k : Int)) ∧ ∃ L1 L2 : Int, l = .int .i64 L1 ∧ f = .int .i64 L2 ∧ PL k L1 ∧ PF k L2 ∧ Below W0.heap.size W0 wr) (fun l f n _ => (fa + (fsA.length : Int) - intOf n).toNat)
  case atStart => exact ⟨0, Nat.zero_le _, by simp, -1, -1, rfl, rfl, by rw [hPL]; exact IsLast.none (Nat.le_refl _), by rw [hPF]; exact IsFirst.none (Nat.le_refl _), Below.refl _ _⟩
  case round =>
    obtain ⟨k, hk, rfl, L1, L2, rfl, rfl, hl, hf, hb⟩ := hrel
    have HL := Lib.hid hl
    have HF := Lib.hid hf
    have hX := HX.out.below hb (by rw [HZ.out]; omega)
    have hY := HY.out.below hb (by rw [HZ.out]; omega)
    have hbw := HB0.out.trans (hb.mono (by rw [HZ.out]; omega))
    have hzr := hb.size
    rw [HZ.out] at hzr
    have x0 : wr.cell? ⟨w.heap.size, 0, none⟩ = some (.int .i64 rma) := hX.cell 0
    have x1' : wr.cell? ⟨w.heap.size, 1, none⟩ = some (.int .i64 fa) := hX.cell 1
    have x2 : wr.cell? ⟨w.heap.size, 2, none⟩ = some (.slice a fsA.length ca) := hX.cell 2
    have pN := Lib.hid (rnext_any wr rma fa a fsA.length ca h0 h1)
    unfold refV at pN
    obtain ⟨xn, hxn⟩ : ∃ xn, xn = fa + (k : Int) := ⟨_, rfl⟩
    have HXN := Lib.hid hxn
    have pT := Lib.hid (fun W => rat_any W rmb fb xn b fsB.length cb k0 k1)
    unfold refV at pT
    by_cases hlt : k < fsA.length
    · have hlt' : xn < fa + (fsA.length : Int) := by omega
      have hxb : xn ≤ 4611686018427387904 := by omega
      have hxl : 0 ≤ xn := by omega
      rw [← hxn]
      clear hxn hl hf x1
      go_wp2_with fail
      refine pN.out.mono ?_
      rintro e w1 ⟨rfl, hb1⟩
      have hY1 := hY.below hb1 (by omega)
      have y0 : w1.cell? ⟨w.heap.size + 1, 0, none⟩ = some (.int .i64 rmb) := hY1.cell 0
      have y1 : w1.cell? ⟨w.heap.size + 1, 1, none⟩ = some (.int .i64 fb) := hY1.cell 1
      have y2 : w1.cell? ⟨w.heap.size + 1, 2, none⟩ = some (.slice b fsB.length cb) := hY1.cell 2
      go_wp2_with fail
      refine (pT.out w1).mono ?_
      rintro e w2 ⟨rfl, hb2⟩
      have hb12 := hb1.trans (hb2.mono hb1.size)
      have HR2 := Lib.hid (hb.trans (hb12.mono hb.size))
      have HW2 := Lib.hid (hbw.trans (hb12.mono hbw.size))
      have HX2 := Lib.hid (hX.below hb12 (by omega))
      have HY2 := Lib.hid (hY.below hb12 (by omega))
      have HZ2 := Lib.hid (Nat.le_trans hzr hb12.size)
      have HEV := Lib.hid (show ratE fb fsB.length xn = atE fb (fsB.map tag).length (fa + (k : Int)) by rw [rat_at, List.length_map, HXN.out])
      obtain ⟨ev, hev⟩ : ∃ ev, ratE fb fsB.length xn = ev := ⟨_, rfl⟩
      rw [hev] at HEV ⊢
      clear hev hX hY hbw hzr x0 x1' x2 y0 y1 y2 hb1 hb2 hb12 hY1 hb pN pT
      by_cases c1 : ev = 0
      · have HP : Hid (dP fa fb (fsB.map tag) k) := Lib.hid (by unfold dP; rw [← HEV.out]; exact c1)
        have d1 : (ev != 0) = false := by simpa using c1
        obtain ⟨i, hi1, hi2, hsB⟩ := atX_map fb fsB xn (by rw [HXN.out, ← HEV.out]; exact c1)
        have cA := regrown w2 (fun W hb => rfsum_any W rma fa a fsA ca k (hA.below (HW2.out.trans (hb.mono HW2.out.size))) hlt hca hma h0 h1)
        have cB := regrown w2 (fun W hb => rfsum_any W rmb fb b fsB cb i (hB.below (HW2.out.trans (hb.mono HW2.out.size))) hi2 hcb hmb k0 k1)
        rw [← HXN.out] at cA
        rw [← hi1] at cB
        unfold refV at cA cB
        have HSB := Lib.hid hsB
        have HSA := Lib.hid (show (ntAt (fsA.map tag) k).2 = sumL (stB fsA[k]) from (congrArg Prod.snd (ntAt_map fsA k hlt)).trans (tag_snd _))
        clear hsB
        generalize sumL (stB fsA[k]) = sA at cA HSA
        generalize sumL (stB fsB[i]) = sB at cB HSB
        have q0 := cell_regrown (HX2.out.cell 0)
        have q1 := cell_regrown (HX2.out.cell 1)
        have q2 := cell_regrown (HX2.out.cell 2)
        have r0 := cell_regrown (HY2.out.cell 0)
        have r1 := cell_regrown (HY2.out.cell 1)
        have r2 := cell_regrown (HY2.out.cell 2)
        have HV := Lib.hid (show dV fa k = xn by unfold dV; exact HXN.out.symm)
        have hv0 := Lib.hid (show ∀ i, 0 ≤ dV fa i from fun i => by unfold dV; omega)
        have HL3 : Hid (PL (k + 1) xn) := Lib.hid (by rw [HPL.out, ← HV.out]; exact IsLast.up_yes HP.out (Nat.zero_le _))
        clear hi1 hi2 c1
        by_cases c2 : L2 < 0
        · have d2 : decide (L2 < 0) = true := by simpa using c2
          by_cases c3 : sA = sB
          · have d3 : (sA != sB) = false := by simpa using c3
            have HQ : Hid (¬ dQ fa fb (fsA.map tag) (fsB.map tag) k) := Lib.hid (fun h => h.2 (by rw [HSA.out, ← HXN.out, HSB.out]; exact c3))
            clear c3
            go_upto_region 7 with fail
            refine wp_region_quiet_below (by kernel_rfl) (by kernel_rfl) ?_
            repeat (quiet_step (fail))
            quiet_step (exact cA _ _)
            repeat (quiet_step (fail))
            quiet_step (exact cB _ _)
            repeat (quiet_step (fail))
            refine wpQuiet_nil ?_
            intro W3 hw'
            obtain ⟨⟨dq, osq⟩, hw''⟩ := hw'
            have hb3 : Below w2.heap.size w2 W3 := by rw [hw'']; exact below_regrown _ _ _
            have HR3 := Lib.hid (HR2.out.trans (hb3.mono HR2.out.size))
            clear hw'' cA cB q0 q1 q2 r0 r1 r2 hb3
            go_wp2_with fail
            refine ⟨⟨k + 1, hlt, by rw [HXN.out]; simp [Int.add_assoc], xn, L2, rfl, rfl, HL3.out, (HPF.out _ _).2 (((HPF.out _ _).1 HF.out).up_no HQ.out), HR3.out⟩, by simp [intOf]; omega⟩
          · have d3 : (sA != sB) = true := by simpa using c3
            have HQ : Hid (dQ fa fb (fsA.map tag) (fsB.map tag) k) := Lib.hid ⟨HP.out, by rw [HSA.out, ← HXN.out, HSB.out]; exact c3⟩
            clear c3
            go_upto_region 7 with fail
            refine wp_region_quiet_below (by kernel_rfl) (by kernel_rfl) ?_
            repeat (quiet_step (fail))
            quiet_step (exact cA _ _)
            repeat (quiet_step (fail))
            quiet_step (exact cB _ _)
            repeat (quiet_step (fail))
            refine wpQuiet_nil ?_
            intro W3 hw'
            obtain ⟨⟨dq, osq⟩, hw''⟩ := hw'
            have hb3 : Below w2.heap.size w2 W3 := by rw [hw'']; exact below_regrown _ _ _
            have HR3 := Lib.hid (HR2.out.trans (hb3.mono HR2.out.size))
            clear hw'' cA cB q0 q1 q2 r0 r1 r2 hb3
            go_wp2_with fail
            refine ⟨⟨k + 1, hlt, by rw [HXN.out]; simp [Int.add_assoc], xn, xn, rfl, rfl, HL3.out, (HPF.out _ _).2 ?_, HR3.out⟩, by simp [intOf]; omega⟩
            rw [← HV.out]
            exact ((HPF.out _ _).1 HF.out).up_first hv0.out c2 HQ.out (Nat.zero_le _)
        · have d2 : decide (L2 < 0) = false := by simpa using c2
          go_upto_region 7 with fail
          refine wp_region_quiet_below (by kernel_rfl) (by kernel_rfl) ?_
          repeat (quiet_step (fail))
          refine wpQuiet_nil ?_
          intro W3 hw'
          obtain ⟨⟨dq, osq⟩, hw''⟩ := hw'
          have hb3 : Below w2.heap.size w2 W3 := by rw [hw'']; exact below_regrown _ _ _
          have HR3 := Lib.hid (HR2.out.trans (hb3.mono HR2.out.size))
          clear hw'' cA cB q0 q1 q2 r0 r1 r2 hb3
          go_wp2_with fail
          refine ⟨⟨k + 1, hlt, by rw [HXN.out]; simp [Int.add_assoc], xn, L2, rfl, rfl, HL3.out, (HPF.out _ _).2 (((HPF.out _ _).1 HF.out).up_had (Int.not_lt.2 c2)), HR3.out⟩, by simp [intOf]; omega⟩
      · have d1 : (ev != 0) = true := by simpa using c1
        have HP : Hid (¬ dP fa fb (fsB.map tag) k) := Lib.hid (fun h => by unfold dP at h; rw [← HEV.out] at h; exact c1 h)
        clear c1
        go_wp2_with fail
        refine ⟨⟨k + 1, hlt, by rw [HXN.out]; simp [Int.add_assoc], L1, L2, rfl, rfl, (HPL.out _ _).2 (((HPL.out _ _).1 HL.out).up_no HP.out), (HPF.out _ _).2 (((HPF.out _ _).1 HF.out).up_no (fun h => HP.out h.1)), HR2.out⟩, by simp [intOf]; omega⟩
    · obtain rfl : k = fsA.length := by omega
      have hlt' : ¬ xn < fa + (fsA.length : Int) := by omega
      have hlt'' : xn = fa + (fsA.length : Int) := hxn
      clear hl hf x1
      rw [← hxn]
      go_wp2_with fail
      refine pN.out.mono ?_
      rintro e w1 ⟨rfl, hb1⟩
      have HB1 := Lib.hid (hbw.trans (hb1.mono hbw.size))
      clear hxn hlt''
      go_wp2_with fail
      go_ret2
      exact ⟨L1, L2, rfl, (HPL.out _ _).1 HL.out, (HPF.out _ _).1 HF.out, HB1.out⟩
end Go.Proofs.Ytblnfkhaicjeaaa.Sav
