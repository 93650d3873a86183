/-
  MeterJoins: the walk.
-/
import Derived.Test.YtmceaffoffemlaaMetK
import Derived.Lib.QuietBelow
namespace Go.Proofs.Ytmceaffoffemlaa.Met
open Go.RowKit Go.Shelf Go.Sort
set_option linter.all false

/-- A contract that leaves what lay, in a world of the class. -/
theorem regrown {P : Program} {f : FuncId} {args : Array Value} {v : Value} (w : World)
    (h : ∀ W, Below w.heap.size w W → Calls P f args W fun e W' => e = .returned v ∧ Below W.heap.size W W') (d : Nat) (os : Array Obj) :
    Calls P f args (grow (redrawn w d) os) fun e w'' => e = .returned v ∧ ∃ p : Regrown, w'' = grow (redrawn w p.d) p.os := Calls.regrown_of (h _ (below_regrown w d os))
theorem fresh1 {v : Value} {X Y B n c : Nat} (h : v.ownBlock = (Value.slice (some ⟨X, 0, none⟩) n c).ownBlock ∨ v.ownBlock = some Y) (hX : B ≤ X) (hY : B ≤ Y) : ∀ g, v.ownBlock = some g → B ≤ g := fun g hg => by
  rcases h with e | e <;> rw [e] at hg <;> simp [Value.ownBlock] at hg <;> omega

set_option maxRecDepth 100000 in
set_option maxHeartbeats 8000000 in
theorem joins_law (a aA aB aC : Option Addr) (c cA cB cC : Nat) (bs la lb cs : List Int) (w : World) (hr : Row .i64 w a bs.length bs) (hA : Row .i64 w aA la.length la) (hB : Row .i64 w aB lb.length lb) (hC : Row .i64 w aC cs.length cs)
    (hIa : I64 la) (hIb : I64 lb) (hbl : bs.length ≤ 9223372036854775807) (hcl : cs.length ≤ 9223372036854775807) (hal : la.length ≤ 9223372036854775807) (hbl2 : lb.length ≤ 9223372036854775807) :
    Calls Try.prog 6 #[.slice a bs.length c, .agg #[.slice aA la.length cA, .slice aB lb.length cB, .slice aC cs.length cC]] w fun e w' => e = .returned (.bool true) ∧ Below w.heap.size w w' := by
  have HR := Lib.hid hr
  have HA := Lib.hid hA
  have HB := Lib.hid hB
  have HC := Lib.hid hC
  have HIA := Lib.hid hIa
  have HIB := Lib.hid hIb
  clear hr hA hB hC hIa hIb
  go_enter Try.func6, Try.ntmps6
  go_wp2_with fail
  refine (awake_any _).mono ?_
  rintro e w1 ⟨rfl, hB0⟩
  have hX : Blk w1 w.heap.size 48 #[.slice aA la.length cA, .slice aB lb.length cB, .slice aC cs.length cC] := (Blk.new w 48 #[.slice aA la.length cA, .slice aB lb.length cB, .slice aC cs.length cC]).below hB0 (by simp)
  have hB1 : Below w.heap.size w w1 := ((Below.refl _ w).alloc (Nat.le_refl _) _).trans (hB0.mono (by simp))
  clear hB0
  have p := Lib.hid (right_any w1 a c bs (HR.out.below hB1) hbl)
  have x0 := hX.cell 0
  have x1 := hX.cell 1
  simp only [List.getElem?_toArray, List.getElem?_cons_succ, List.getElem?_cons_zero] at x0 x1
  go_wp2_with fail
  refine p.out.mono ?_
  rintro e w2 ⟨hSR, hB2⟩
  have hX2 := hX.below hB2 hX.lt
  have hBw2 : Below w.heap.size w w2 := hB1.trans (hB2.mono hB1.size)
  clear p x0 x1 hX hB1 hB2
  have x0 : w2.cell? ⟨w.heap.size, 0, none⟩ = some (.slice aA la.length cA) := hX2.cell 0
  have x1 : w2.cell? ⟨w.heap.size, 1, none⟩ = some (.slice aB lb.length cB) := hX2.cell 1
  rcases hSR with ⟨rfl, hR⟩ | ⟨rfl, hR⟩
  · by_cases h60 : 60 < la.length
    · have h60' : (60 : Int) < (la.length : Int) := by omega
      go_wp2_with fail
      go_ret
      exact ⟨rfl, hBw2⟩
    have h60' : ¬ (60 : Int) < (la.length : Int) := by omega
    by_cases h61 : 60 < lb.length
    · have h61' : (60 : Int) < (lb.length : Int) := by omega
      go_wp2_with fail
      go_ret
      exact ⟨rfl, hBw2⟩
    have h61' : ¬ (60 : Int) < (lb.length : Int) := by omega
    have h64 := hR.2.2
    have HRR := Lib.hid hR
    have pA := Lib.hid (fun (W : World) (h : Below w2.heap.size w2 W) => made_any W a aA c cA bs la (HR.out.below (hBw2.trans (h.mono hBw2.size))) (HA.out.below (hBw2.trans (h.mono hBw2.size))) hR (by omega) HIA.out)
    have pB := Lib.hid (fun (W : World) (h : Below w2.heap.size w2 W) => made_any W a aB c cB bs lb (HR.out.below (hBw2.trans (h.mono hBw2.size))) (HB.out.below (hBw2.trans (h.mono hBw2.size))) hR (by omega) HIB.out)
    have hb0 : Below w2.heap.size w2 w2.drew := below_drewN (Below.refl _ _) 1
    have hxl := hX2.lt
    clear hR
    go_upto_region 5 with fail
    go_region_held3 (fun w' => w'.cell? ⟨w.heap.size, 0, none⟩ = some (.slice aA la.length cA) ∧ w'.cell? ⟨w.heap.size, 1, none⟩ = some (.slice aB lb.length cB)) (first | exact ⟨x0, x1⟩ | exact ⟨y0, y1⟩ | exact ⟨z0, z1⟩)
      (first
        | (go_at_call_of 18 (aA); refine (pA.out _ (by first | exact hb0 | exact hbB)).mono ?_; rintro e wA ⟨ta, bva, cva, rfl, TA⟩; have hbA : Below w2.heap.size w2 wA := (by first | exact hb0.trans (TA.below.mono (by first | exact hb0.size | exact hbB.size)) | exact hbB.trans (TA.below.mono hbB.size)); have y0 : wA.cell? ⟨w.heap.size, 0, none⟩ = some (.slice aA la.length cA) := (hbA.cell (p := ⟨w.heap.size, 0, none⟩) hxl).trans x0; have y1 : wA.cell? ⟨w.heap.size, 1, none⟩ = some (.slice aB lb.length cB) := (hbA.cell (p := ⟨w.heap.size, 1, none⟩) hxl).trans x1)
        | (go_at_call_of 18 (aB); refine (pB.out _ (by first | exact hb0 | exact hbA)).mono ?_; rintro e wB ⟨tb_, bvb, cvb, rfl, TB⟩; have hbB : Below w2.heap.size w2 wB := (by first | exact hb0.trans (TB.below.mono hb0.size) | exact hbA.trans (TB.below.mono hbA.size)); have z0 : wB.cell? ⟨w.heap.size, 0, none⟩ = some (.slice aA la.length cA) := (hbB.cell (p := ⟨w.heap.size, 0, none⟩) hxl).trans x0; have z1 : wB.cell? ⟨w.heap.size, 1, none⟩ = some (.slice aB lb.length cB) := (hbB.cell (p := ⟨w.heap.size, 1, none⟩) hxl).trans x1))
    have FA := TA.at_.below TB.below
    have FB := TB.at_
    have hXB := hX2.below hbB hX2.lt
    have hBB : Below w.heap.size w wB := hBw2.trans (hbB.mono hBw2.size)
    have pC := Lib.hid (right_any wB aC cC cs (HC.out.below hBB) hcl)
    clear x0 x1 y0 y1 z0 z1 pA pB hbA hbB hb0 TA TB hX2 hBw2 hxl
    have x2 : wB.cell? ⟨w.heap.size, 2, none⟩ = some (.slice aC cs.length cC) := hXB.cell 2
    have HFA := Lib.hid FA
    have HFB := Lib.hid FB
    clear FA FB
    go_wp2_with fail
    refine pC.out.mono ?_
    rintro e w3 ⟨hSC, hB3⟩
    have HFA3 := Lib.hid (HFA.out.below hB3)
    have HFB3 := Lib.hid (HFB.out.below hB3)
    have hX3 := hXB.below hB3 hXB.lt
    have hBw3 : Below w.heap.size w w3 := hBB.trans (hB3.mono hBB.size)
    clear pC x2 HFA HFB hXB hBB hB3
    rcases hSC with ⟨rfl, hRC⟩ | ⟨rfl, hRC⟩
    · have x1 : w3.cell? ⟨w.heap.size, 1, none⟩ = some (.slice aB lb.length cB) := hX3.cell 1
      have x2 : w3.cell? ⟨w.heap.size, 2, none⟩ = some (.slice aC cs.length cC) := hX3.cell 2
      have hC64 := hRC.2.2
      have HRC := Lib.hid hRC
      have pD := Lib.hid (fun (W : World) (h : Below w3.heap.size w3 W) => made_any W aC aB cC cB cs lb (HC.out.below (hBw3.trans (h.mono hBw3.size))) (HB.out.below (hBw3.trans (h.mono hBw3.size))) hRC (by omega) HIB.out)
      have hb0 : Below w3.heap.size w3 w3.drew := below_drewN (Below.refl _ _) 1
      have hxl := hX3.lt
      clear hRC
      go_upto_region 9 with fail
      go_region_held3 (fun w' => w'.cell? ⟨w.heap.size, 1, none⟩ = some (.slice aB lb.length cB) ∧ w'.cell? ⟨w.heap.size, 2, none⟩ = some (.slice aC cs.length cC)) (first | exact ⟨x1, x2⟩ | exact ⟨y1, y2⟩)
        (first
          | (go_at_call 18; refine (pD.out _ (by exact hb0)).mono ?_; rintro e wD ⟨td, bvd, cvd, rfl, TD⟩; have hbD : Below w3.heap.size w3 wD := hb0.trans (TD.below.mono hb0.size); have y1 : wD.cell? ⟨w.heap.size, 1, none⟩ = some (.slice aB lb.length cB) := (hbD.cell (p := ⟨w.heap.size, 1, none⟩) hxl).trans x1; have y2 : wD.cell? ⟨w.heap.size, 2, none⟩ = some (.slice aC cs.length cC) := (hbD.cell (p := ⟨w.heap.size, 2, none⟩) hxl).trans x2))
      have HFA4 := Lib.hid (HFA3.out.below hbD)
      have HFB4 := Lib.hid (HFB3.out.below hbD)
      have hX4 := hX3.below hbD hX3.lt
      have hBw4 : Below w.heap.size w wD := hBw3.trans (hbD.mono hBw3.size)
      have HTD := Lib.hid TD.at_
      clear HFA3 HFB3 hX3 hBw3 x1 x2 y1 y2 pD hb0 hxl hbD TD
      go_wp2_with fail
      rw [show decide ((60 : Int) < (la.length : Int)) = false from decide_eq_false (by omega), show decide ((60 : Int) < (lb.length : Int)) = false from decide_eq_false (by omega), Bool.or_false]
      obtain ⟨le, hle⟩ : ∃ le : Bool, ((cs.length : Int) == (bs.length : Int)) = le := ⟨_, rfl⟩
      rw [hle]
      have HLE := Lib.hid (show le = true ↔ bs.length = cs.length by rw [← hle]; simp; omega)
      clear hle h60' h61'
      go_loopw [8, 9] (fun sv iv wr => ∃ (i : Nat) (b : Bool), sv = .bool b ∧ iv = .int .i64 i ∧ i ≤ bs.length ∧ (b = true ↔ (bs.length = cs.length ∧ ∀ j, j < i → nth bs j = nth cs j)) ∧ ∃ nn, wr = wD.drewN nn) (fun _ iv _ => bs.length - (intOf iv).toNat)
      case atStart => exact ⟨0, le, rfl, rfl, by omega, by rw [HLE.out]; exact ⟨fun h => ⟨h, fun j hj => by omega⟩, fun h => h.1⟩, 0, rfl⟩
      case round =>
        obtain ⟨i, b, rfl, rfl, hi, hbb, nn, rfl⟩ := hrel
        have hdn : Below wD.heap.size wD (wD.drewN nn) := below_drewN (Below.refl _ _) nn
        have HFA5 := Lib.hid (HFA4.out.below hdn)
        have HFB5 := Lib.hid (HFB4.out.below hdn)
        have hX5 := hX4.below hdn hX4.lt
        have hBw5 : Below w.heap.size w (wD.drewN nn) := hBw4.trans (hdn.mono hBw4.size)
        have HTD5 := Lib.hid (HTD.out.below hdn)
        cases b
        · have HNE := Lib.hid (show bs ≠ cs from fun e => by have := hbb.2 ⟨by rw [e], fun j hj => by rw [e]⟩; cases this)
          have pJ := Lib.hid (join_no (wD.drewN nn) ta td bva cva bvd cvd bs cs la lb HFA5.out HTD5.out HNE.out)
          clear hbb hdn
          go_wp2_with fail
          refine pJ.out.mono ?_
          rintro e w6 ⟨rfl, n6, rfl⟩
          go_wp2_with fail
          have h66 := below_drewN (Below.refl wD.heap.size wD) (nn + n6)
          have HFA9 := Lib.hid (HFA4.out.below h66)
          have HFB9 := Lib.hid (HFB4.out.below h66)
          have hX9 := hX4.below h66 hX4.lt
          have hBw9 : Below w.heap.size w (wD.drewN (nn + n6)) := hBw4.trans (h66.mono hBw4.size)
          clear HFA5 HFB5 hX5 hBw5 HTD5 pJ h66
          generalize wD.drewN (nn + n6) = WF at *
          have pJoin := Lib.hid (join_ok WF ta tb_ bva cva bvb cvb bs la lb HFA9.out HFB9.out (by omega) (by omega) HIA.out HIB.out)
          refine pJoin.out.mono ?_
          rintro e wJ ⟨tj, bvj, cvj, rfl, TJ, hBJ⟩
          have hXJ := hX9.below hBJ hX9.lt
          have hBwJ : Below w.heap.size w wJ := hBw9.trans (hBJ.mono hBw9.size)
          have HTJ := Lib.hid TJ
          have y0 : wJ.cell? ⟨w.heap.size, 0, none⟩ = some (.slice aA la.length cA) := hXJ.cell 0
          have y1 : wJ.cell? ⟨w.heap.size, 1, none⟩ = some (.slice aB lb.length cB) := hXJ.cell 1
          have hxl := hXJ.lt
          clear pJoin TJ hBJ
          go_upto_region 18 with fail
          obtain ⟨i0, hi0, hz0, hz1, hz2⟩ := info_parts int_info
          have fE : On (wJ.alloc (.cells #[] 3)) 3 1 (.slice (some ⟨wJ.heap.size, 0, none⟩) 0 0) 0 [] := On.empty _ _ _
          have hbE : Below wJ.heap.size wJ (wJ.alloc (.cells #[] 3)) := (Below.refl _ wJ).alloc (Nat.le_refl _) _
          have srcA := Lib.hid (row_src (HA.out.below (hBwJ.trans (hbE.mono hBwJ.size))))
          have hq1 : 0 + la.length ≤ maxLen := by simp only [maxLen]; omega
          have hq2 : (0 + la.length) * 8 ≤ 140737488355328 := by omega
          have hq3 : la.length + lb.length ≤ maxLen := by simp only [maxLen]; omega
          have hq4 : (la.length + lb.length) * 8 ≤ 140737488355328 := by omega
          have lmA := Lib.hid (show (la.map (Value.int .i64)).length = la.length * 1 by simp)
          have lmB := Lib.hid (show (lb.map (Value.int .i64)).length = lb.length * 1 by simp)
          have u0 : (wJ.alloc (.cells #[] 3)).cell? ⟨w.heap.size, 0, none⟩ = some (.slice aA la.length cA) := (hbE.cell (p := ⟨w.heap.size, 0, none⟩) hxl).trans y0
          have u1 : (wJ.alloc (.cells #[] 3)).cell? ⟨w.heap.size, 1, none⟩ = some (.slice aB lb.length cB) := (hbE.cell (p := ⟨w.heap.size, 1, none⟩) hxl).trans y1
          go_region_held3 (fun w' => w'.cell? ⟨w.heap.size, 0, none⟩ = some (.slice aA la.length cA) ∧ w'.cell? ⟨w.heap.size, 1, none⟩ = some (.slice aB lb.length cB)) (first | exact ⟨y0, y1⟩ | exact ⟨u0, u1⟩ | exact ⟨v0, v1⟩ | exact ⟨t0, t1⟩)
            (first
              | (refine step_append_on _ (by rfl) (.tmp 107) (.tmp 109) _ (by rfl) 3 i0 _ 1 8 Try.underlying23 hi0 hz0 hz1 hz2 rfl (by omega) (.slice (some ⟨wJ.heap.size, 0, none⟩) 0 0) 0 [] (by rfl) (by exact fE) aA la.length cA (la.map (.int .i64)) (by rfl) (by exact lmA.out) (by exact srcA.out) (one_map _ _) hq1 hq2 ?_; intro q1 wK hown1 hg1 hat1; rw [Nat.zero_add, List.nil_append] at hown1; have hbK : Below wJ.heap.size wJ wK := Below.grown hbE ⟨hg1.os, hg1.tape, hg1.output, hg1.size, hg1.block⟩ hbE.size (fun k hk => by simp [Value.ownBlock] at hk; omega); have v0 : wK.cell? ⟨w.heap.size, 0, none⟩ = some (.slice aA la.length cA) := (hbK.cell (p := ⟨w.heap.size, 0, none⟩) hxl).trans y0; have v1 : wK.cell? ⟨w.heap.size, 1, none⟩ = some (.slice aB lb.length cB) := (hbK.cell (p := ⟨w.heap.size, 1, none⟩) hxl).trans y1; have O1 := fresh1 (by exact hat1) (Nat.le_refl _) (by exact hbE.size); have srcB := Lib.hid (row_src (HB.out.below (hBwJ.trans (hbK.mono hBwJ.size)))); obtain ⟨a1, c1, rfl, hl1, hm1⟩ := hown1.slice)
              | (refine step_append_on _ (by rfl) (.tmp 110) (.tmp 112) _ (by rfl) 3 i0 _ 1 8 Try.underlying23 hi0 hz0 hz1 hz2 rfl (by omega) (.slice a1 la.length c1) la.length _ (by rfl) (by exact hown1) aB lb.length cB (lb.map (.int .i64)) (by rfl) (by exact lmB.out) (by exact srcB.out) (one_map _ _) hq3 hq4 ?_; intro q2 wL hown2 hg2 hat2; have hbL : Below wJ.heap.size wJ wL := Below.grown hbK ⟨hg2.os, hg2.tape, hg2.output, hg2.size, hg2.block⟩ hbK.size O1; have t0 : wL.cell? ⟨w.heap.size, 0, none⟩ = some (.slice aA la.length cA) := (hbL.cell (p := ⟨w.heap.size, 0, none⟩) hxl).trans y0; have t1 : wL.cell? ⟨w.heap.size, 1, none⟩ = some (.slice aB lb.length cB) := (hbL.cell (p := ⟨w.heap.size, 1, none⟩) hxl).trans y1; obtain ⟨a2, c2, rfl, hl2, hm2⟩ := hown2.slice))
          have TL := HTJ.out.below hbL
          have hBwL : Below w.heap.size w wL := hBwJ.trans (hbL.mono hBwJ.size)
          have hOn : On wL 3 1 (.slice a2 (la ++ lb).length c2) (la ++ lb).length ((la ++ lb).map (.int .i64)) := by rw [List.length_append, List.map_append]; exact hown2
          have cSA := regrown wL (v := .int .i64 (sat la)) (fun W hb => ref_sum W aA cA la (HA.out.below (hBwL.trans (hb.mono hBwL.size))) HIA.out (by omega))
          have cSB := regrown wL (v := .int .i64 (sat lb)) (fun W hb => ref_sum W aB cB lb (HB.out.below (hBwL.trans (hb.mono hBwL.size))) HIB.out (by omega))
          have cAdd := regrown wL (v := .int .i64 (clampI (sat la + sat lb))) (fun W hb => by rw [← hold_clamp]; exact Num.add_any W (sat la) (sat lb) (sat_in la).1 (sat_in la).2 (sat_in lb).1 (sat_in lb).2)
          have cIs := regrown wL (v := .bool true) (fun W hb => is_any W tj bvj cvj bs (la ++ lb) (clampI (sat la + sat lb)) a a2 c c2 (TL.below hb) (HR.out.below (hBwL.trans (hb.mono hBwL.size))) ((on_row hOn).below hb) (by omega) (by rw [List.length_append]; omega) (clampI_in _))
          rw [List.length_append] at cIs
          have r0 := cell_regrown t0
          have r1 := cell_regrown t1
          clear TL hOn hown2 hg2 hat2 hown1 hg1 hat1 fE srcA srcB u0 u1 v0 v1 y0 y1 t0 t1 O1 hbE hbK
          generalize clampI (sat la + sat lb) = SS at *
          go_upto_region 19 with fail
          refine wp_region_quiet_below (by kernel_rfl) (by kernel_rfl) ?_
          iterate 12 (quiet_step (fail))
          quiet_step (exact cSA _ _)
          iterate 2 (quiet_step (fail))
          quiet_step (exact cSB _ _)
          quiet_step (exact cAdd _ _)
          quiet_step (exact cIs _ _)
          iterate 2 (quiet_step (fail))
          refine wpQuiet_nil ?_
          intro W9 hw'
          obtain ⟨⟨dq, osq⟩, hw''⟩ := hw'
          have hb9 : Below wL.heap.size wL W9 := by rw [hw'']; exact below_regrown _ _ _
          clear hw'' cSA cSB cAdd cIs r0 r1
          go_wp2_with fail
          go_ret
          exact ⟨rfl, hBwL.trans (hb9.mono hBwL.size)⟩
        · obtain ⟨hlen, hall⟩ := hbb.1 rfl
          by_cases hlt : i < bs.length
          · obtain ⟨ga, oa, rfl, hga, hca⟩ := HR.out.2 (by omega)
            obtain ⟨gc, oc, rfl, hgc, hcc⟩ := HC.out.2 (by omega)
            have k1 : wD.cell? ⟨ga, oa + i, none⟩ = some (.int .i64 (nth bs i)) := (hBw4.cell (p := ⟨ga, oa + i, none⟩) hga).trans (hca i hlt)
            have k2 : wD.cell? ⟨gc, oc + i, none⟩ = some (.int .i64 (nth cs i)) := (hBw4.cell (p := ⟨gc, oc + i, none⟩) hgc).trans (hcc i (by omega))
            have x2 : wD.cell? ⟨w.heap.size, 2, none⟩ = some (.slice (some ⟨gc, oc, none⟩) cs.length cC) := hX4.cell 2
            have i0 : (0 : Int) ≤ (i : Int) := by omega
            have i1 : (i : Int) < (bs.length : Int) := by omega
            have i2 : (i : Int) < (cs.length : Int) := by omega
            have HL := Lib.hid hlen
            clear hca hcc hdn HFA5 HFB5 HTD5 hX5 hBw5 hlen hbb
            by_cases he : nth bs i = nth cs i
            · have HAL := Lib.hid (show ∀ j, j < i + 1 → nth bs j = nth cs j from fun j hj => by
                by_cases e : j = i
                · subst e; exact he
                · exact hall j (by omega))
              rw [← he] at k2
              clear hall he
              generalize nth bs i = v at *
              go_wp2_with fail
              go_region
              all_goals
                go_wp2_with fail
                go_roundw
                case rel => exact ⟨i + 1, true, by simp, by go_num, by omega, ⟨fun _ => ⟨HL.out, HAL.out⟩, fun _ => rfl⟩, nn + 1, rfl⟩
                case measure => simp [intOf]; omega
            · have HNA := Lib.hid (show ¬ (bs.length = cs.length ∧ ∀ j, j < i + 1 → nth bs j = nth cs j) from fun h => he (h.2 i (by omega)))
              clear hall
              generalize nth bs i = v at *
              generalize nth cs i = u at *
              go_wp2_with fail
              go_region
              all_goals
                go_wp2_with fail
                go_roundw
                case rel => exact ⟨i + 1, false, by simp [he], by go_num, by omega, ⟨fun h => (by cases h), fun h => absurd h HNA.out⟩, nn + 1, rfl⟩
                case measure => simp [intOf]; omega
          · obtain rfl : cs = bs := (ext_nth hlen (fun j hj => hall j (by omega))).symm
            have pJ := Lib.hid (join_ok (wD.drewN nn) ta td bva cva bvd cvd cs la lb HFA5.out HTD5.out (by omega) (by omega) HIA.out HIB.out)
            have i1 : ¬ (i : Int) < (cs.length : Int) := by omega
            clear hbb hdn hall
            go_wp2_with fail
            refine pJ.out.mono ?_
            rintro e w6 ⟨t6, bv6, cv6, rfl, _, hB6⟩
            go_wp2_with fail
            have HFA9 := Lib.hid (HFA5.out.below hB6)
            have HFB9 := Lib.hid (HFB5.out.below hB6)
            have hX9 := hX5.below hB6 hX5.lt
            have hBw9 : Below w.heap.size w w6 := hBw5.trans (hB6.mono hBw5.size)
            clear HFA5 HFB5 hX5 hBw5 HTD5 pJ hB6
            generalize w6 = WF at *
            have pJoin := Lib.hid (join_ok WF ta tb_ bva cva bvb cvb cs la lb HFA9.out HFB9.out (by omega) (by omega) HIA.out HIB.out)
            refine pJoin.out.mono ?_
            rintro e wJ ⟨tj, bvj, cvj, rfl, TJ, hBJ⟩
            have hXJ := hX9.below hBJ hX9.lt
            have hBwJ : Below w.heap.size w wJ := hBw9.trans (hBJ.mono hBw9.size)
            have HTJ := Lib.hid TJ
            have y0 : wJ.cell? ⟨w.heap.size, 0, none⟩ = some (.slice aA la.length cA) := hXJ.cell 0
            have y1 : wJ.cell? ⟨w.heap.size, 1, none⟩ = some (.slice aB lb.length cB) := hXJ.cell 1
            have hxl := hXJ.lt
            clear pJoin TJ hBJ
            go_upto_region 18 with fail
            obtain ⟨i0, hi0, hz0, hz1, hz2⟩ := info_parts int_info
            have fE : On (wJ.alloc (.cells #[] 3)) 3 1 (.slice (some ⟨wJ.heap.size, 0, none⟩) 0 0) 0 [] := On.empty _ _ _
            have hbE : Below wJ.heap.size wJ (wJ.alloc (.cells #[] 3)) := (Below.refl _ wJ).alloc (Nat.le_refl _) _
            have srcA := Lib.hid (row_src (HA.out.below (hBwJ.trans (hbE.mono hBwJ.size))))
            have hq1 : 0 + la.length ≤ maxLen := by simp only [maxLen]; omega
            have hq2 : (0 + la.length) * 8 ≤ 140737488355328 := by omega
            have hq3 : la.length + lb.length ≤ maxLen := by simp only [maxLen]; omega
            have hq4 : (la.length + lb.length) * 8 ≤ 140737488355328 := by omega
            have lmA := Lib.hid (show (la.map (Value.int .i64)).length = la.length * 1 by simp)
            have lmB := Lib.hid (show (lb.map (Value.int .i64)).length = lb.length * 1 by simp)
            have u0 : (wJ.alloc (.cells #[] 3)).cell? ⟨w.heap.size, 0, none⟩ = some (.slice aA la.length cA) := (hbE.cell (p := ⟨w.heap.size, 0, none⟩) hxl).trans y0
            have u1 : (wJ.alloc (.cells #[] 3)).cell? ⟨w.heap.size, 1, none⟩ = some (.slice aB lb.length cB) := (hbE.cell (p := ⟨w.heap.size, 1, none⟩) hxl).trans y1
            go_region_held3 (fun w' => w'.cell? ⟨w.heap.size, 0, none⟩ = some (.slice aA la.length cA) ∧ w'.cell? ⟨w.heap.size, 1, none⟩ = some (.slice aB lb.length cB)) (first | exact ⟨y0, y1⟩ | exact ⟨u0, u1⟩ | exact ⟨v0, v1⟩ | exact ⟨t0, t1⟩)
              (first
                | (refine step_append_on _ (by rfl) (.tmp 107) (.tmp 109) _ (by rfl) 3 i0 _ 1 8 Try.underlying23 hi0 hz0 hz1 hz2 rfl (by omega) (.slice (some ⟨wJ.heap.size, 0, none⟩) 0 0) 0 [] (by rfl) (by exact fE) aA la.length cA (la.map (.int .i64)) (by rfl) (by exact lmA.out) (by exact srcA.out) (one_map _ _) hq1 hq2 ?_; intro q1 wK hown1 hg1 hat1; rw [Nat.zero_add, List.nil_append] at hown1; have hbK : Below wJ.heap.size wJ wK := Below.grown hbE ⟨hg1.os, hg1.tape, hg1.output, hg1.size, hg1.block⟩ hbE.size (fun k hk => by simp [Value.ownBlock] at hk; omega); have v0 : wK.cell? ⟨w.heap.size, 0, none⟩ = some (.slice aA la.length cA) := (hbK.cell (p := ⟨w.heap.size, 0, none⟩) hxl).trans y0; have v1 : wK.cell? ⟨w.heap.size, 1, none⟩ = some (.slice aB lb.length cB) := (hbK.cell (p := ⟨w.heap.size, 1, none⟩) hxl).trans y1; have O1 := fresh1 (by exact hat1) (Nat.le_refl _) (by exact hbE.size); have srcB := Lib.hid (row_src (HB.out.below (hBwJ.trans (hbK.mono hBwJ.size)))); obtain ⟨a1, c1, rfl, hl1, hm1⟩ := hown1.slice)
                | (refine step_append_on _ (by rfl) (.tmp 110) (.tmp 112) _ (by rfl) 3 i0 _ 1 8 Try.underlying23 hi0 hz0 hz1 hz2 rfl (by omega) (.slice a1 la.length c1) la.length _ (by rfl) (by exact hown1) aB lb.length cB (lb.map (.int .i64)) (by rfl) (by exact lmB.out) (by exact srcB.out) (one_map _ _) hq3 hq4 ?_; intro q2 wL hown2 hg2 hat2; have hbL : Below wJ.heap.size wJ wL := Below.grown hbK ⟨hg2.os, hg2.tape, hg2.output, hg2.size, hg2.block⟩ hbK.size O1; have t0 : wL.cell? ⟨w.heap.size, 0, none⟩ = some (.slice aA la.length cA) := (hbL.cell (p := ⟨w.heap.size, 0, none⟩) hxl).trans y0; have t1 : wL.cell? ⟨w.heap.size, 1, none⟩ = some (.slice aB lb.length cB) := (hbL.cell (p := ⟨w.heap.size, 1, none⟩) hxl).trans y1; obtain ⟨a2, c2, rfl, hl2, hm2⟩ := hown2.slice))
            have TL := HTJ.out.below hbL
            have hBwL : Below w.heap.size w wL := hBwJ.trans (hbL.mono hBwJ.size)
            have hOn : On wL 3 1 (.slice a2 (la ++ lb).length c2) (la ++ lb).length ((la ++ lb).map (.int .i64)) := by rw [List.length_append, List.map_append]; exact hown2
            have cSA := regrown wL (v := .int .i64 (sat la)) (fun W hb => ref_sum W aA cA la (HA.out.below (hBwL.trans (hb.mono hBwL.size))) HIA.out (by omega))
            have cSB := regrown wL (v := .int .i64 (sat lb)) (fun W hb => ref_sum W aB cB lb (HB.out.below (hBwL.trans (hb.mono hBwL.size))) HIB.out (by omega))
            have cAdd := regrown wL (v := .int .i64 (clampI (sat la + sat lb))) (fun W hb => by rw [← hold_clamp]; exact Num.add_any W (sat la) (sat lb) (sat_in la).1 (sat_in la).2 (sat_in lb).1 (sat_in lb).2)
            have cIs := regrown wL (v := .bool true) (fun W hb => is_any W tj bvj cvj cs (la ++ lb) (clampI (sat la + sat lb)) a a2 c c2 (TL.below hb) (HR.out.below (hBwL.trans (hb.mono hBwL.size))) ((on_row hOn).below hb) (by omega) (by rw [List.length_append]; omega) (clampI_in _))
            rw [List.length_append] at cIs
            have r0 := cell_regrown t0
            have r1 := cell_regrown t1
            clear TL hOn hown2 hg2 hat2 hown1 hg1 hat1 fE srcA srcB u0 u1 v0 v1 y0 y1 t0 t1 O1 hbE hbK
            generalize clampI (sat la + sat lb) = SS at *
            go_upto_region 19 with fail
            refine wp_region_quiet_below (by kernel_rfl) (by kernel_rfl) ?_
            iterate 12 (quiet_step (fail))
            quiet_step (exact cSA _ _)
            iterate 2 (quiet_step (fail))
            quiet_step (exact cSB _ _)
            quiet_step (exact cAdd _ _)
            quiet_step (exact cIs _ _)
            iterate 2 (quiet_step (fail))
            refine wpQuiet_nil ?_
            intro W9 hw'
            obtain ⟨⟨dq, osq⟩, hw''⟩ := hw'
            have hb9 : Below wL.heap.size wL W9 := by rw [hw'']; exact below_regrown _ _ _
            clear hw'' cSA cSB cAdd cIs r0 r1
            go_wp2_with fail
            go_ret
            exact ⟨rfl, hBwL.trans (hb9.mono hBwL.size)⟩
    · have hRC' := hRC
      clear hRC hRC'
      clear h60' h61'
      have HFA9 := HFA3
      have HFB9 := HFB3
      have hX9 := hX3
      have hBw9 := hBw3
      go_wp2_with fail
      generalize w3 = WF at *
      have pJoin := Lib.hid (join_ok WF ta tb_ bva cva bvb cvb bs la lb HFA9.out HFB9.out (by omega) (by omega) HIA.out HIB.out)
      refine pJoin.out.mono ?_
      rintro e wJ ⟨tj, bvj, cvj, rfl, TJ, hBJ⟩
      have hXJ := hX9.below hBJ hX9.lt
      have hBwJ : Below w.heap.size w wJ := hBw9.trans (hBJ.mono hBw9.size)
      have HTJ := Lib.hid TJ
      have y0 : wJ.cell? ⟨w.heap.size, 0, none⟩ = some (.slice aA la.length cA) := hXJ.cell 0
      have y1 : wJ.cell? ⟨w.heap.size, 1, none⟩ = some (.slice aB lb.length cB) := hXJ.cell 1
      have hxl := hXJ.lt
      clear pJoin TJ hBJ
      go_upto_region 18 with fail
      obtain ⟨i0, hi0, hz0, hz1, hz2⟩ := info_parts int_info
      have fE : On (wJ.alloc (.cells #[] 3)) 3 1 (.slice (some ⟨wJ.heap.size, 0, none⟩) 0 0) 0 [] := On.empty _ _ _
      have hbE : Below wJ.heap.size wJ (wJ.alloc (.cells #[] 3)) := (Below.refl _ wJ).alloc (Nat.le_refl _) _
      have srcA := Lib.hid (row_src (HA.out.below (hBwJ.trans (hbE.mono hBwJ.size))))
      have hq1 : 0 + la.length ≤ maxLen := by simp only [maxLen]; omega
      have hq2 : (0 + la.length) * 8 ≤ 140737488355328 := by omega
      have hq3 : la.length + lb.length ≤ maxLen := by simp only [maxLen]; omega
      have hq4 : (la.length + lb.length) * 8 ≤ 140737488355328 := by omega
      have lmA := Lib.hid (show (la.map (Value.int .i64)).length = la.length * 1 by simp)
      have lmB := Lib.hid (show (lb.map (Value.int .i64)).length = lb.length * 1 by simp)
      have u0 : (wJ.alloc (.cells #[] 3)).cell? ⟨w.heap.size, 0, none⟩ = some (.slice aA la.length cA) := (hbE.cell (p := ⟨w.heap.size, 0, none⟩) hxl).trans y0
      have u1 : (wJ.alloc (.cells #[] 3)).cell? ⟨w.heap.size, 1, none⟩ = some (.slice aB lb.length cB) := (hbE.cell (p := ⟨w.heap.size, 1, none⟩) hxl).trans y1
      go_region_held3 (fun w' => w'.cell? ⟨w.heap.size, 0, none⟩ = some (.slice aA la.length cA) ∧ w'.cell? ⟨w.heap.size, 1, none⟩ = some (.slice aB lb.length cB)) (first | exact ⟨y0, y1⟩ | exact ⟨u0, u1⟩ | exact ⟨v0, v1⟩ | exact ⟨t0, t1⟩)
        (first
          | (refine step_append_on _ (by rfl) (.tmp 107) (.tmp 109) _ (by rfl) 3 i0 _ 1 8 Try.underlying23 hi0 hz0 hz1 hz2 rfl (by omega) (.slice (some ⟨wJ.heap.size, 0, none⟩) 0 0) 0 [] (by rfl) (by exact fE) aA la.length cA (la.map (.int .i64)) (by rfl) (by exact lmA.out) (by exact srcA.out) (one_map _ _) hq1 hq2 ?_; intro q1 wK hown1 hg1 hat1; rw [Nat.zero_add, List.nil_append] at hown1; have hbK : Below wJ.heap.size wJ wK := Below.grown hbE ⟨hg1.os, hg1.tape, hg1.output, hg1.size, hg1.block⟩ hbE.size (fun k hk => by simp [Value.ownBlock] at hk; omega); have v0 : wK.cell? ⟨w.heap.size, 0, none⟩ = some (.slice aA la.length cA) := (hbK.cell (p := ⟨w.heap.size, 0, none⟩) hxl).trans y0; have v1 : wK.cell? ⟨w.heap.size, 1, none⟩ = some (.slice aB lb.length cB) := (hbK.cell (p := ⟨w.heap.size, 1, none⟩) hxl).trans y1; have O1 := fresh1 (by exact hat1) (Nat.le_refl _) (by exact hbE.size); have srcB := Lib.hid (row_src (HB.out.below (hBwJ.trans (hbK.mono hBwJ.size)))); obtain ⟨a1, c1, rfl, hl1, hm1⟩ := hown1.slice)
          | (refine step_append_on _ (by rfl) (.tmp 110) (.tmp 112) _ (by rfl) 3 i0 _ 1 8 Try.underlying23 hi0 hz0 hz1 hz2 rfl (by omega) (.slice a1 la.length c1) la.length _ (by rfl) (by exact hown1) aB lb.length cB (lb.map (.int .i64)) (by rfl) (by exact lmB.out) (by exact srcB.out) (one_map _ _) hq3 hq4 ?_; intro q2 wL hown2 hg2 hat2; have hbL : Below wJ.heap.size wJ wL := Below.grown hbK ⟨hg2.os, hg2.tape, hg2.output, hg2.size, hg2.block⟩ hbK.size O1; have t0 : wL.cell? ⟨w.heap.size, 0, none⟩ = some (.slice aA la.length cA) := (hbL.cell (p := ⟨w.heap.size, 0, none⟩) hxl).trans y0; have t1 : wL.cell? ⟨w.heap.size, 1, none⟩ = some (.slice aB lb.length cB) := (hbL.cell (p := ⟨w.heap.size, 1, none⟩) hxl).trans y1; obtain ⟨a2, c2, rfl, hl2, hm2⟩ := hown2.slice))
      have TL := HTJ.out.below hbL
      have hBwL : Below w.heap.size w wL := hBwJ.trans (hbL.mono hBwJ.size)
      have hOn : On wL 3 1 (.slice a2 (la ++ lb).length c2) (la ++ lb).length ((la ++ lb).map (.int .i64)) := by rw [List.length_append, List.map_append]; exact hown2
      have cSA := regrown wL (v := .int .i64 (sat la)) (fun W hb => ref_sum W aA cA la (HA.out.below (hBwL.trans (hb.mono hBwL.size))) HIA.out (by omega))
      have cSB := regrown wL (v := .int .i64 (sat lb)) (fun W hb => ref_sum W aB cB lb (HB.out.below (hBwL.trans (hb.mono hBwL.size))) HIB.out (by omega))
      have cAdd := regrown wL (v := .int .i64 (clampI (sat la + sat lb))) (fun W hb => by rw [← hold_clamp]; exact Num.add_any W (sat la) (sat lb) (sat_in la).1 (sat_in la).2 (sat_in lb).1 (sat_in lb).2)
      have cIs := regrown wL (v := .bool true) (fun W hb => is_any W tj bvj cvj bs (la ++ lb) (clampI (sat la + sat lb)) a a2 c c2 (TL.below hb) (HR.out.below (hBwL.trans (hb.mono hBwL.size))) ((on_row hOn).below hb) (by omega) (by rw [List.length_append]; omega) (clampI_in _))
      rw [List.length_append] at cIs
      have r0 := cell_regrown t0
      have r1 := cell_regrown t1
      clear TL hOn hown2 hg2 hat2 hown1 hg1 hat1 fE srcA srcB u0 u1 v0 v1 y0 y1 t0 t1 O1 hbE hbK
      generalize clampI (sat la + sat lb) = SS at *
      go_upto_region 19 with fail
      refine wp_region_quiet_below (by kernel_rfl) (by kernel_rfl) ?_
      iterate 12 (quiet_step (fail))
      quiet_step (exact cSA _ _)
      iterate 2 (quiet_step (fail))
      quiet_step (exact cSB _ _)
      quiet_step (exact cAdd _ _)
      quiet_step (exact cIs _ _)
      iterate 2 (quiet_step (fail))
      refine wpQuiet_nil ?_
      intro W9 hw'
      obtain ⟨⟨dq, osq⟩, hw''⟩ := hw'
      have hb9 : Below wL.heap.size wL W9 := by rw [hw'']; exact below_regrown _ _ _
      clear hw'' cSA cSB cAdd cIs r0 r1
      go_wp2_with fail
      go_ret
      exact ⟨rfl, hBwL.trans (hb9.mono hBwL.size)⟩
  · go_wp2_with fail
    go_ret
    exact ⟨rfl, hBw2⟩
end Go.Proofs.Ytmceaffoffemlaa.Met
