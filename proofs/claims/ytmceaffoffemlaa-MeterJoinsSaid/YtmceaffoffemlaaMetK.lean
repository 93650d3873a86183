/-
  meter: Join.
-/
import Derived.Test.YtmceaffoffemlaaMetJ
namespace Go.Proofs.Ytmceaffoffemlaa.Met
open Go.RowKit
set_option linter.all false

def mixL (bs ls : List Int) (i : Nat) : List Int := (List.range (bs.length + 1)).map (fun p => if p < i then (cnt bs ls p : Int) else 0)
theorem mix_zero (bs ls : List Int) : mixL bs ls 0 = cts bs [] := by simp [mixL, cts, cnt]
theorem mix_end (bs ls : List Int) : mixL bs ls (bs.length + 1) = cts bs ls := by
  unfold mixL cts
  apply List.map_congr_left
  intro p hp
  rw [if_pos (by simpa using hp)]
theorem mix_len (bs ls : List Int) (i : Nat) : (mixL bs ls i).length = bs.length + 1 := by simp [mixL]
theorem mix_set (bs ls : List Int) {i : Nat} (h : i < bs.length + 1) : (mixL bs ls i).set i (cnt bs ls i : Int) = mixL bs ls (i + 1) := by
  apply List.ext_getElem
  · simp [mixL]
  · intro j h1 h2
    rw [List.getElem_set]
    simp only [mixL, List.getElem_map, List.getElem_range]
    by_cases e : i = j
    · subst e; simp
    · rw [if_neg e]
      by_cases e2 : j < i
      · rw [if_pos e2, if_pos (by omega)]
      · rw [if_neg e2, if_neg (by omega)]
theorem mix_nth (bs ls : List Int) {i : Nat} (h : i < bs.length + 1) : (mixL bs ls i)[i]? = some 0 := by
  have hl : i < (mixL bs ls i).length := by rw [mix_len]; exact h
  rw [List.getElem?_eq_getElem hl]
  simp [mixL]

set_option maxRecDepth 100000 in
set_option maxHeartbeats 2000000 in
theorem join_no (w : World) (ta tb_ : Nat) (bva cva bvb cvb : Value) (bs bs2 la lb : List Int) (ha : TAt w ta bva cva bs la) (hb : TAt w tb_ bvb cvb bs2 lb) (hne : bs ≠ bs2) :
    Calls Try.prog 28 #[.pointer (some ⟨ta, 0, none⟩), .pointer (some ⟨tb_, 0, none⟩)] w fun e w' => e = .returned (.tuple #[.pointer none, .int .i64 1]) ∧ ∃ n, w' = w.drewN n := by
  obtain ⟨aa, ac, ga, ca, rfl, rfl, hra, hca, hcella, a0, a1, _⟩ := ha.cells
  obtain ⟨ba, bc, gb, cb, rfl, rfl, hrb, hcb, hcellb, b0, b1, _⟩ := hb.cells
  have p := Lib.hid (fun n => (equal_any (w.drewN n) aa ba ac bc bs bs2 (hra.below (below_drewN (Below.refl _ _) n)) (hrb.below (below_drewN (Below.refl _ _) n)) (by have := ha.right.2.2; omega) (by have := hb.right.2.2; omega)).mono (R' := fun e w'' => e = .returned (.bool false) ∧ ∃ m, w'' = w.drewN m) (fun _ _ h => ⟨by rw [h.1, decide_eq_false hne], by obtain ⟨m, hm⟩ := h.2; exact ⟨n + m, by rw [hm, World.drewN_drewN]⟩⟩))
  clear hne ha hb hra hrb hcella hcellb
  go_enter Try.func28, Try.ntmps28
  go_upto_region 1 with fail
  go_quiet (exact p.out _)
  go_wp2_with fail
  go_ret2
  exact ⟨rfl, _, rfl⟩
/-- The joined table, while its counts come. -/
structure JI (w W : World) (t : Nat) (bs ls : List Int) (bv cv : Value) (i : Nat) : Prop where
  box : Blk W t 97 (tb bv cv 0 0 0 0)
  b : On W 3 1 bv bs.length (bs.map (.int .i64))
  c : On W 3 1 cv (bs.length + 1) ((mixL bs ls i).map (.int .i64))
  below : Below w.heap.size w W
theorem JI.drew {w W : World} {t : Nat} {bs ls : List Int} {bv cv : Value} {i : Nat} (h : JI w W t bs ls bv cv i) : JI w W.drew t bs ls bv cv i := ⟨h.box.drew, h.b.drew, h.c.drew, below_drewN h.below 1⟩
theorem JI.step {w W : World} {t : Nat} {bs ls : List Int} {bv cv : Value} {i : Nat} (h : JI w W t bs ls bv cv i) (hi : i < bs.length + 1) (gc cc : Nat) (hcv : cv = .slice (some ⟨gc, 0, none⟩) (bs.length + 1) cc) (hne : ∀ g, bv.ownBlock = some g → g ≠ gc) (hgt : gc ≠ t) (hgw : w.heap.size ≤ gc) (v : Int) (hv : (cnt bs ls i : Int) = v) :
    JI w (W.setCell ⟨gc, i, none⟩ (.int .i64 v)) t bs ls bv cv (i + 1) := by
  subst hcv
  refine ⟨h.box.far (p := ⟨gc, i, none⟩) (fun e => hgt e.symm) _, h.b.far (p := ⟨gc, i, none⟩) (fun e => hne _ e rfl) _, ?_, h.below.setCell (p := ⟨gc, i, none⟩) hgw _⟩
  rw [← mix_set bs ls hi, List.map_set, hv]
  exact h.c.store i _

set_option maxRecDepth 100000 in
set_option maxHeartbeats 8000000 in
theorem join_ok (w : World) (ta tb_ : Nat) (bva cva bvb cvb : Value) (bs la lb : List Int) (ha : TAt w ta bva cva bs la) (hb : TAt w tb_ bvb cvb bs lb) (hla : la.length ≤ 500) (hlb : lb.length ≤ 500) (hIa : I64 la) (hIb : I64 lb) :
    Calls Try.prog 28 #[.pointer (some ⟨ta, 0, none⟩), .pointer (some ⟨tb_, 0, none⟩)] w fun e w' => ∃ t bv cv, e = .returned (.tuple #[.pointer (some ⟨t, 0, none⟩), .int .i64 0]) ∧ TS w' t bv cv bs (la ++ lb) (clampI (sat la + sat lb)) ∧ Below w.heap.size w w' := by
  obtain ⟨aa, ac, ga, ca, rfl, rfl, hra, hca, hcella, a0, a1, _⟩ := ha.cells
  obtain ⟨ba, bc, gb, cb, rfl, rfl, hrb, hcb, hcellb, b0, b1, _⟩ := hb.cells
  have h64 := ha.right.2.2
  have p := Lib.hid (fun n => (equal_any (w.drewN n) aa ba ac bc bs bs (hra.below (below_drewN (Below.refl _ _) n)) (hrb.below (below_drewN (Below.refl _ _) n)) (by omega) (by omega)).mono (R' := fun e w'' => e = .returned (.bool true) ∧ ∃ m, w'' = w.drewN m) (fun _ _ h => ⟨by rw [h.1]; simp, by obtain ⟨m, hm⟩ := h.2; exact ⟨n + m, by rw [hm, World.drewN_drewN]⟩⟩))
  have HA := Lib.hid ha
  have HB := Lib.hid hb
  have HRA := Lib.hid hra
  clear ha hb hra hrb hcella hcellb
  go_enter Try.func28, Try.ntmps28
  go_upto_region 1 with fail
  go_quiet (exact p.out _)
  have hW0 : Below w.heap.size w (w.drewN nq) := below_drewN (Below.refl _ _) nq
  have q := Lib.hid (new_ok (w.drewN nq) aa ac bs (HRA.out.below hW0) HA.out.right)
  clear p
  go_wp2_with fail
  refine q.out.mono ?_
  rintro e w2 ⟨t, bv, cv, rfl, hT, ht, hcv, hB2⟩
  have hB : Below w.heap.size w w2 := hW0.trans hB2
  clear q a0 a1 b0 b1
  rcases hT.c.form with ⟨_, h0, _⟩ | ⟨gc, cc, rfl, hcc, hcm, hown, hgc, hcell, hfr⟩
  · omega
  have t1 : w2.cell? ⟨t, 1, none⟩ = some (.slice (some ⟨gc, 0, none⟩) (bs.length + 1) cc) := hT.box.cell 1
  go_wp2_with fail
  have hne : ∀ g, bv.ownBlock = some g → g ≠ gc := fun g hg e => hT.ne g hg (by rw [hown, e])
  have hgt : gc ≠ t := fun e => hT.c.blk_ne hT.box (by decide) (by rw [hown, e])
  have htw : w.heap.size ≤ t := by have : (w.drewN nq).heap.size ≤ t := ht; exact this
  have hgw : w.heap.size ≤ gc := by have : (w.drewN nq).heap.size ≤ gc := hcv gc hown; exact this
  have J0 : JI w w2 t bs (la ++ lb) bv (.slice (some ⟨gc, 0, none⟩) (bs.length + 1) cc) 0 := ⟨hT.box, hT.b, by rw [mix_zero]; exact hT.c, hB⟩
  clear hT hB hcell hfr t1 ht hcv hB2 hW0
  go_loopw [32] (fun iv wr => ∃ i : Nat, i ≤ bs.length + 1 ∧ iv = .int .i64 i ∧ JI w wr t bs (la ++ lb) bv (.slice (some ⟨gc, 0, none⟩) (bs.length + 1) cc) i) (fun iv _ => bs.length + 1 - (intOf iv).toNat)
  case atStart => exact ⟨0, by omega, rfl, J0⟩
  case round =>
    obtain ⟨i, hil, rfl, J⟩ := hrel
    have hA := HA.out.below (J.below)
    have hBt := HB.out.below (J.below)
    by_cases hlt : i < bs.length + 1
    · obtain ⟨aa', ac', ga', ca', e1, e2, _, _, hcella, _, a1, _⟩ := hA.cells
      cases e1; cases e2
      obtain ⟨ba', bc', gb', cb', e1, e2, _, _, hcellb, _, b1, _⟩ := hBt.cells
      cases e1; cases e2
      have ka := hcella i hlt
      have kb := hcellb i hlt
      rcases J.c.form with ⟨_, h0, _⟩ | ⟨gc', cc', e3, _, _, _, _, hcell, hfr⟩
      · omega
      cases e3
      have kc : wr.cell? ⟨gc, i, none⟩ = some (.int .i64 0) := hcell i _ (by rw [List.getElem?_map, mix_nth bs (la ++ lb) hlt]; rfl)
      have kf := hfr i
      have t1 : wr.cell? ⟨t, 1, none⟩ = some (.slice (some ⟨gc, 0, none⟩) (bs.length + 1) cc) := J.box.cell 1
      have i0 : (0 : Int) ≤ (i : Int) := by omega
      have i1 : (i : Int) < (bs.length : Int) + 1 := by omega
      have l1 := cnt_le bs la i
      have l2 := cnt_le bs lb i
      have EC := Lib.hid (show (cnt bs (la ++ lb) i : Int) = (cnt bs la i : Int) + (cnt bs lb i : Int) by rw [cnt_app]; push_cast; rfl)
      have HJ := Lib.hid J
      clear J hA hBt hcella hcellb hcell hfr
      generalize cnt bs la i = va at *
      generalize cnt bs lb i = vb at *
      have hw1 : IntKind.i64.wrap ((va : Int) + (vb : Int)) = (va : Int) + (vb : Int) := IntWalk.i64_in _ (by omega)
      go_wp2_with fail
      go_region
      all_goals
        go_wp2_with fail
        go_roundw
        case rel =>
          refine ⟨i + 1, by omega, by go_num, ?_⟩
          have h := HJ.out.step hlt gc cc rfl hne hgt hgw ((va : Int) + (vb : Int)) EC.out
          exact h.drew
        case measure => simp [intOf]; omega
    · obtain rfl : i = bs.length + 1 := by omega
      obtain ⟨aa', ac', ga', ca', e1, e2, _, _, _, _, _, a2, a3, a4, a5⟩ := hA.cells
      cases e1; cases e2
      obtain ⟨ba', bc', gb', cb', e1, e2, _, _, _, _, _, b2, b3, b4, b5⟩ := hBt.cells
      cases e1; cases e2
      have hta : ta ≠ t := by have := HA.out.box.lt; omega
      have htb : tb_ ≠ t := by have := HB.out.box.lt; omega
      have k2 : wr.cell? ⟨t, 2, none⟩ = some (.int .i64 0) := J.box.cell 2
      have k3 : wr.cell? ⟨t, 3, none⟩ = some (.int .i64 0) := J.box.cell 3
      have f2 := J.box.frozen 2
      have f3 := J.box.frozen 3
      obtain ⟨SS, hSS⟩ : ∃ SS, SS = clampI (sat la + sat lb) := ⟨_, rfl⟩
      have pA := Lib.hid (fun W => (word_add W (sat la) (sat lb) (sat_in la) (sat_in lb)).mono (R' := fun e w' => e = .returned (.int .i64 SS) ∧ w' = W) (fun _ _ h => ⟨by rw [hSS]; exact h.1, h.2.symm⟩))
      have ESS := Lib.hid hSS
      clear hSS
      have hwl : IntKind.i64.wrap ((la.length : Int) + (lb.length : Int)) = (la.length : Int) + (lb.length : Int) := IntWalk.i64_in _ (by omega)
      have xa1 := (hA.box.far (p := ⟨t, 2, none⟩) hta (.int .i64 ((la.length : Int) + (lb.length : Int))))
      have xb1 := (hBt.box.far (p := ⟨t, 2, none⟩) htb (.int .i64 ((la.length : Int) + (lb.length : Int))))
      have xa2 := xa1.far (p := ⟨t, 3, none⟩) hta (.int .i64 SS)
      have xb2 := xb1.far (p := ⟨t, 3, none⟩) htb (.int .i64 SS)
      have xa3 := (hA.box.far (p := ⟨t, 3, none⟩) hta (.int .i64 SS))
      have xb3 := (hBt.box.far (p := ⟨t, 3, none⟩) htb (.int .i64 SS))
      have HX1 := Lib.hid (⟨xa1.cell 2, xa1.cell 3, xb1.cell 2, xb1.cell 3⟩ : _ ∧ _ ∧ _ ∧ _)
      have HX2 := Lib.hid (⟨xa2.cell 2, xa2.cell 3, xb2.cell 2, xb2.cell 3⟩ : _ ∧ _ ∧ _ ∧ _)
      have HX3 := Lib.hid (⟨xa3.cell 2, xa3.cell 3, xb3.cell 2, xb3.cell 3⟩ : _ ∧ _ ∧ _ ∧ _)
      have HJ := Lib.hid J
      have HXA := Lib.hid xa2
      have HXB := Lib.hid xb2
      clear J hA hBt xa1 xb1 xa2 xb2 xa3 xb3
      go_upto_region 9 with fail
      go_region_held3 (fun w' => w'.cell? ⟨ta, 2, none⟩ = some (.int .i64 la.length) ∧ w'.cell? ⟨ta, 3, none⟩ = some (.int .i64 (sat la)) ∧ w'.cell? ⟨tb_, 2, none⟩ = some (.int .i64 lb.length) ∧ w'.cell? ⟨tb_, 3, none⟩ = some (.int .i64 (sat lb))) (first | exact ⟨a2, a3, b2, b3⟩ | exact HX1.out | exact HX2.out | exact HX3.out | go_keep)
        (first
          | (go_at_call 63; refine (pA.out _).mono ?_; rintro e w' ⟨rfl, hw⟩; subst hw))
      have Y9 : Blk ((wr.setCell ⟨t, 2, none⟩ (.int .i64 ((la.length : Int) + (lb.length : Int)))).setCell ⟨t, 3, none⟩ (.int .i64 SS)).drew t 97 (tb bv (.slice (some ⟨gc, 0, none⟩) (bs.length + 1) cc) ((la.length : Int) + (lb.length : Int)) SS 0 0) := ((HJ.out.box.set_ 2 _).set_ 3 _).drew
      have B9 := ((HJ.out.b.far (p := ⟨t, 2, none⟩) (HJ.out.b.blk_ne HJ.out.box (by decide)) (.int .i64 ((la.length : Int) + (lb.length : Int)))).far (p := ⟨t, 3, none⟩) (HJ.out.b.blk_ne HJ.out.box (by decide)) (.int .i64 SS)).drew
      have C9 := ((HJ.out.c.far (p := ⟨t, 2, none⟩) (HJ.out.c.blk_ne HJ.out.box (by decide)) (.int .i64 ((la.length : Int) + (lb.length : Int)))).far (p := ⟨t, 3, none⟩) (HJ.out.c.blk_ne HJ.out.box (by decide)) (.int .i64 SS)).drew
      rw [mix_end] at C9
      have D9 : Below w.heap.size w ((wr.setCell ⟨t, 2, none⟩ (.int .i64 ((la.length : Int) + (lb.length : Int)))).setCell ⟨t, 3, none⟩ (.int .i64 SS)).drew := below_drewN ((HJ.out.below.setCell (p := ⟨t, 2, none⟩) htw _).setCell (p := ⟨t, 3, none⟩) htw _) 1
      have A9 := HXA.out.drew
      have Z9 := HXB.out.drew
      clear HX1 HX2 HX3 HXA HXB HJ a2 a3 a4 a5 b2 b3 b4 b5 k2 k3 f2 f3
      generalize ((wr.setCell ⟨t, 2, none⟩ (.int .i64 ((la.length : Int) + (lb.length : Int)))).setCell ⟨t, 3, none⟩ (.int .i64 SS)).drew = w9 at *
      have a2 : w9.cell? ⟨ta, 2, none⟩ = some (.int .i64 la.length) := A9.cell 2
      have a4 : w9.cell? ⟨ta, 4, none⟩ = some (.int .i64 (lo la)) := A9.cell 4
      have a5 : w9.cell? ⟨ta, 5, none⟩ = some (.int .i64 (hi la)) := A9.cell 5
      have b2 : w9.cell? ⟨tb_, 2, none⟩ = some (.int .i64 lb.length) := Z9.cell 2
      have b4 : w9.cell? ⟨tb_, 4, none⟩ = some (.int .i64 (lo lb)) := Z9.cell 4
      have b5 : w9.cell? ⟨tb_, 5, none⟩ = some (.int .i64 (hi lb)) := Z9.cell 5
      have k4 : w9.cell? ⟨t, 4, none⟩ = some (.int .i64 0) := Y9.cell 4
      have k5 : w9.cell? ⟨t, 5, none⟩ = some (.int .i64 0) := Y9.cell 5
      have f4 := Y9.frozen 4
      have f5 := Y9.frozen 5
      have hlo := lo_app la lb
      have hhi := hi_app la lb
      by_cases z1 : la.length = 0
      · have z1' : (la.length : Int) = 0 := by omega
        have ELO := Lib.hid (show lo (la ++ lb) = lo lb by rw [hlo, if_pos z1])
        have EHI := Lib.hid (show hi (la ++ lb) = hi lb by rw [hhi, if_pos z1])
        have z1'' : ((la.length : Int) == 0) = true := by rw [z1']; rfl
        have Z1 := Lib.hid z1
        have xs1 := Z9.far (p := ⟨t, 4, none⟩) htb (.int .i64 (lo lb))
        have xs2 := xs1.far (p := ⟨t, 5, none⟩) htb (.int .i64 (hi lb))
        have xs3 := Z9.far (p := ⟨t, 5, none⟩) htb (.int .i64 (hi lb))
        have HS1 := Lib.hid (⟨xs1.cell 4, xs1.cell 5⟩ : _ ∧ _)
        have HS2 := Lib.hid (⟨xs2.cell 4, xs2.cell 5⟩ : _ ∧ _)
        have HS3 := Lib.hid (⟨xs3.cell 4, xs3.cell 5⟩ : _ ∧ _)
        clear xs1 xs2 xs3
        clear hlo hhi A9 Z9 z1
        go_upto_region 12 with fail
        go_region_held3 (fun w' => w'.cell? ⟨tb_, 4, none⟩ = some (.int .i64 (lo lb)) ∧ w'.cell? ⟨tb_, 5, none⟩ = some (.int .i64 (hi lb))) (first | exact ⟨b4, b5⟩ | exact HS1.out | exact HS2.out | exact HS3.out) (first | fail)
        all_goals
          go_wp2_with fail
          go_ret2
          have hfar : ∀ j : Nat, bv.ownBlock ≠ some (⟨t, j, none⟩ : Addr).block := fun j => B9.blk_ne Y9 (by decide)
          have hfar2 : ∀ j : Nat, (Value.slice (some ⟨gc, 0, none⟩) (bs.length + 1) cc).ownBlock ≠ some (⟨t, j, none⟩ : Addr).block := fun j => C9.blk_ne Y9 (by decide)
          refine ⟨t, bv, .slice (some ⟨gc, 0, none⟩) (bs.length + 1) cc, rfl, ⟨?_, ((B9.far (p := ⟨t, 4, none⟩) (hfar 4) (.int .i64 (lo lb))).far (p := ⟨t, 5, none⟩) (hfar 5) (.int .i64 (hi lb))).drew, ((C9.far (p := ⟨t, 4, none⟩) (hfar2 4) (.int .i64 (lo lb))).far (p := ⟨t, 5, none⟩) (hfar2 5) (.int .i64 (hi lb))).drew⟩, ?_⟩
          · have e : tb bv (.slice (some ⟨gc, 0, none⟩) (bs.length + 1) cc) (la ++ lb).length SS (lo (la ++ lb)) (hi (la ++ lb)) = ((tb bv (.slice (some ⟨gc, 0, none⟩) (bs.length + 1) cc) ((la.length : Int) + (lb.length : Int)) SS 0 0).setIfInBounds 4 (.int .i64 (lo (la ++ lb)))).setIfInBounds 5 (.int .i64 (hi (la ++ lb))) := by simp [tb]
            rw [← ESS.out, e, ELO.out, EHI.out]
            exact ((Y9.set_ 4 (.int .i64 (lo lb))).set_ 5 (.int .i64 (hi lb))).drew
          · exact below_drewN ((D9.setCell (p := ⟨t, 4, none⟩) htw (.int .i64 (lo lb))).setCell (p := ⟨t, 5, none⟩) htw (.int .i64 (hi lb))) 1
      · have z1' : ¬ (la.length : Int) = 0 := by omega
        by_cases z2 : lb.length = 0
        · have ELO := Lib.hid (show lo (la ++ lb) = lo la by rw [hlo, if_neg z1, if_pos z2])
          have EHI := Lib.hid (show hi (la ++ lb) = hi la by rw [hhi, if_neg z1, if_pos z2])
          have z2' : (lb.length : Int) = 0 := by omega
          have z2'' : ((lb.length : Int) == 0) = true := by rw [z2']; rfl
          have Z2 := Lib.hid z2
          have xs1 := A9.far (p := ⟨t, 4, none⟩) hta (.int .i64 (lo la))
          have xs2 := xs1.far (p := ⟨t, 5, none⟩) hta (.int .i64 (hi la))
          have xs3 := A9.far (p := ⟨t, 5, none⟩) hta (.int .i64 (hi la))
          have HS1 := Lib.hid (⟨xs1.cell 4, xs1.cell 5⟩ : _ ∧ _)
          have HS2 := Lib.hid (⟨xs2.cell 4, xs2.cell 5⟩ : _ ∧ _)
          have HS3 := Lib.hid (⟨xs3.cell 4, xs3.cell 5⟩ : _ ∧ _)
          clear xs1 xs2 xs3
          clear hlo hhi A9 Z9 z2
          go_upto_region 14 with fail
          go_region_held3 (fun w' => w'.cell? ⟨ta, 4, none⟩ = some (.int .i64 (lo la)) ∧ w'.cell? ⟨ta, 5, none⟩ = some (.int .i64 (hi la))) (first | exact ⟨a4, a5⟩ | exact HS1.out | exact HS2.out | exact HS3.out) (first | fail)
          all_goals
            go_wp2_with fail
            go_ret2
            have hfar : ∀ j : Nat, bv.ownBlock ≠ some (⟨t, j, none⟩ : Addr).block := fun j => B9.blk_ne Y9 (by decide)
            have hfar2 : ∀ j : Nat, (Value.slice (some ⟨gc, 0, none⟩) (bs.length + 1) cc).ownBlock ≠ some (⟨t, j, none⟩ : Addr).block := fun j => C9.blk_ne Y9 (by decide)
            refine ⟨t, bv, .slice (some ⟨gc, 0, none⟩) (bs.length + 1) cc, rfl, ⟨?_, ((B9.far (p := ⟨t, 4, none⟩) (hfar 4) (.int .i64 (lo la))).far (p := ⟨t, 5, none⟩) (hfar 5) (.int .i64 (hi la))).drew, ((C9.far (p := ⟨t, 4, none⟩) (hfar2 4) (.int .i64 (lo la))).far (p := ⟨t, 5, none⟩) (hfar2 5) (.int .i64 (hi la))).drew⟩, ?_⟩
            · have e : tb bv (.slice (some ⟨gc, 0, none⟩) (bs.length + 1) cc) (la ++ lb).length SS (lo (la ++ lb)) (hi (la ++ lb)) = ((tb bv (.slice (some ⟨gc, 0, none⟩) (bs.length + 1) cc) ((la.length : Int) + (lb.length : Int)) SS 0 0).setIfInBounds 4 (.int .i64 (lo (la ++ lb)))).setIfInBounds 5 (.int .i64 (hi (la ++ lb))) := by simp [tb]
              rw [← ESS.out, e, ELO.out, EHI.out]
              exact ((Y9.set_ 4 (.int .i64 (lo la))).set_ 5 (.int .i64 (hi la))).drew
            · exact below_drewN ((D9.setCell (p := ⟨t, 4, none⟩) htw (.int .i64 (lo la))).setCell (p := ⟨t, 5, none⟩) htw (.int .i64 (hi la))) 1
        · have z2' : ¬ (lb.length : Int) = 0 := by omega
          obtain ⟨LL, hLL⟩ : ∃ LL, LL = min (lo la) (lo lb) := ⟨_, rfl⟩
          obtain ⟨HH, hHH⟩ : ∃ HH, HH = max (hi la) (hi lb) := ⟨_, rfl⟩
          have ELO := Lib.hid (show lo (la ++ lb) = LL by rw [hlo, if_neg z1, if_neg z2, hLL])
          have EHI := Lib.hid (show hi (la ++ lb) = HH by rw [hhi, if_neg z1, if_neg z2, hHH])
          have m1 : (if lo lb < lo la then lo lb else lo la) = LL := by rw [hLL]; omega
          have m2 : (if hi la < hi lb then hi lb else hi la) = HH := by rw [hHH]; omega
          clear hlo hhi hLL hHH A9 Z9
          go_wp2_with fail
          go_region
          all_goals
            go_wp2_with fail
            go_ret2
            have hfar : ∀ j : Nat, bv.ownBlock ≠ some (⟨t, j, none⟩ : Addr).block := fun j => B9.blk_ne Y9 (by decide)
            have hfar2 : ∀ j : Nat, (Value.slice (some ⟨gc, 0, none⟩) (bs.length + 1) cc).ownBlock ≠ some (⟨t, j, none⟩ : Addr).block := fun j => C9.blk_ne Y9 (by decide)
            refine ⟨t, bv, .slice (some ⟨gc, 0, none⟩) (bs.length + 1) cc, rfl, ⟨?_, ((B9.far (p := ⟨t, 4, none⟩) (hfar 4) (.int .i64 LL)).far (p := ⟨t, 5, none⟩) (hfar 5) (.int .i64 HH)).drew, ((C9.far (p := ⟨t, 4, none⟩) (hfar2 4) (.int .i64 LL)).far (p := ⟨t, 5, none⟩) (hfar2 5) (.int .i64 HH)).drew⟩, ?_⟩
            · have e : tb bv (.slice (some ⟨gc, 0, none⟩) (bs.length + 1) cc) (la ++ lb).length SS (lo (la ++ lb)) (hi (la ++ lb)) = ((tb bv (.slice (some ⟨gc, 0, none⟩) (bs.length + 1) cc) ((la.length : Int) + (lb.length : Int)) SS 0 0).setIfInBounds 4 (.int .i64 (lo (la ++ lb)))).setIfInBounds 5 (.int .i64 (hi (la ++ lb))) := by simp [tb]
              rw [← ESS.out, e, ELO.out, EHI.out]
              exact ((Y9.set_ 4 (.int .i64 LL)).set_ 5 (.int .i64 HH)).drew
            · exact below_drewN ((D9.setCell (p := ⟨t, 4, none⟩) htw (.int .i64 LL)).setCell (p := ⟨t, 5, none⟩) htw (.int .i64 HH)) 1
end Go.Proofs.Ytmceaffoffemlaa.Met
