/-
  Texts joined: Rbytes, Whole, Rgm, Rmv. No condition.
-/
import Derived.Test.YtlhoffhagfhbcaaBDiff9
import Derived.Lib.QuietBelow
import Derived.Deep.Cut
import Derived.Deep.CutBlock
import Derived.Deep.DeepCutAuto
namespace Go.Proofs.Ytlhoffhagfhbcaa.Gm
open Go.RowKit Go.Sort Go.Proofs.Ytlhoffhagfhbcaa.Num Go.Proofs.Ytlhoffhagfhbcaa.Byt
set_option linter.all false

set_option maxRecDepth 100000 in
set_option maxHeartbeats 8000000 in
theorem rstB_any (w : World) (f : F) (hw : Wf f) :
    Calls Try.prog 32 #[stV f] w fun e w' => ∃ v, e = .returned v ∧ Run w.heap.size w w' v (stB f) := by
  obtain ⟨W1, hW1⟩ : ∃ W1, W1 = w.alloc (.cells (stA f) 31) := ⟨_, rfl⟩
  have hS : SB W1 w.heap.size 31 f := by rw [hW1]; exact SB.new w _ f
  have hB : Below w.heap.size w W1 := by rw [hW1]; exact (Below.refl _ w).alloc (Nat.le_refl _) _
  have hz : w.heap.size + 1 ≤ W1.heap.size := by rw [hW1]; simp
  have c0 := hS.int (j := 0) (by omega) (by omega) (by omega)
  have HS := Lib.hid hS
  have HB := Lib.hid hB
  have hsd := hw.seed
  have R0 : Run (w.heap.size + 1) W1 W1 (.slice none 0 0) [] := ⟨Out.nil _, Below.refl _ _, fun g hg => by simp [Value.ownBlock] at hg⟩
  have p1 := Lib.hid (rput_any W1 _ [] (f 0) R0.out (by simp))
  have HR0 := Lib.hid R0
  unfold stV
  clear hS hB hw R0
  go_enter Try.func32, Try.ntmps32
  go_upto_region 1 with fail
  rw [← hW1]
  clear hW1
  go_wp2_with fail
  refine p1.out.mono ?_
  rintro e w2 ⟨v1, rfl, o1, t1, g1⟩
  have R1 := HR0.out.put hz o1 t1 g1
  have hS2 := R1.sb HS.out (by omega)
  have c1 := hS2.seed
  obtain ⟨sd, hsd1⟩ : ∃ sd : Nat, f 1 = (sd : Int) := ⟨(f 1).toNat, by omega⟩
  have hsw : IntKind.u64.wrap (sd : Int) = (sd : Int) := IntWalk.u64_in _ (by omega)
  rw [hsd1] at c1
  have p2 := Lib.hid (rbytes_any w2 sd 4 (by omega) (.inr rfl))
  have HSD := Lib.hid hsd1
  have HR1 := Lib.hid R1
  clear c0 p1 o1 t1 g1 hS2 hsd1 R1 HR0 hsd
  go_wp2_with fail
  refine p2.out.mono ?_
  rintro e w3 ⟨v2, rfl, o2, b2, g2⟩
  have X := Lib.hid (On.below HR1.out.out b2 (On.lt HR1.out.out))
  obtain ⟨a1, ca, rfl, hc1, hm1⟩ := o2.slice
  have hsrc := o2.src
  have hel : (ub (endB sd 4)).length = 4 * 1 := by rw [ub_len, endB_len]
  obtain ⟨i0, hi, hz0, hz1, hz2⟩ := info_parts info8
  go_upto_region 3 with (at_builtin; refine wpList_append_on _ (by rfl) _ _ 61 (by rfl) 5 i0 _ 1 1 Try.underlying61 hi hz0 hz1 hz2 (by rfl) (by omega) v1 8 _ (by rfl) X.out a1 4 ca (ub (endB sd 4)) (by rfl) hel hsrc (ub_one _) (by simp only [maxLen]; omega) (by omega) ?_; intro v' w' hon hg hv')
  have R3 : Run (w.heap.size + 1) W1 w' v' (bodiesB f 0) := by
    have R2 : Run (w.heap.size + 1) W1 w3 v1 ([] ++ be8 (f 0)) := ⟨X.out, HR1.out.below.trans (b2.mono (Nat.le_trans hz HR1.out.below.size)), HR1.out.low⟩
    have := R2.app hz (ys := endB sd 4) hon hg hv'
    rw [endB4, ← HSD.out] at this
    exact this
  clear X o2 hsrc hel hon hg hv' p2 b2 g2 HR1 hc1 hm1
  go_wp2_with fail
  go_loopw [3, 4] (fun ov iv wr => ∃ i : Nat, i ≤ 2 ∧ iv = .int .i64 i ∧ Run (w.heap.size + 1) W1 wr ov (bodiesB f i)) (fun _ iv _ => 2 - (intOf iv).toNat)
  case atStart => exact ⟨0, by omega, rfl, R3⟩
  case round =>
    clear R3
    obtain ⟨i, hi, rfl, hR⟩ := hrel
    obtain ⟨wo, rfl⟩ : ∃ wo : World, wo = wr := ⟨_, rfl⟩
    by_cases hlt : i < 2
    · have i1 : (0 : Int) ≤ (i : Int) := by omega
      have i2 : (i : Int) < 2 := by omega
      have hlen := bodiesB_len f i
      have HE : ∃ xs, bodiesB f i = xs := ⟨_, rfl⟩
      obtain ⟨xs, hxs⟩ := HE
      have HE := Lib.hid (show bodiesB f (i + 1) = bodiesB f i ++ be8 (f (2 + i * 7)) ++ be8 (f (2 + i * 7 + 1)) ++ be8 (f (2 + i * 7 + 2)) ++ be8 (f (2 + i * 7 + 3)) ++ be8 (f (2 + i * 7 + 4)) ++ be8 (f (2 + i * 7 + 5)) ++ be8 (f (2 + i * 7 + 6)) by
        rw [bodiesB]; simp [runB, List.append_assoc])
      rw [hxs] at HE hR hlen
      have HLEN := Lib.hid (show xs.length ≤ 1000 by omega)
      obtain ⟨e0, e1, e2, e3, e4, e5, e6, -⟩ := (hR.sb HS.out (by omega)).bodyAt hlt
      simp only [bod] at e0 e1 e2 e3 e4 e5 e6
      generalize f (2 + i * 7) = z0 at *
      generalize f (2 + i * 7 + 1) = z1 at *
      generalize f (2 + i * 7 + 2) = z2 at *
      generalize f (2 + i * 7 + 3) = z3 at *
      generalize f (2 + i * 7 + 4) = z4 at *
      generalize f (2 + i * 7 + 5) = z5 at *
      generalize f (2 + i * 7 + 6) = z6 at *
      have hR3 := hR.alloc hz (.cells #[.int .i64 z0, .int .i64 z1, .int .i64 z2, .int .i64 z3, .int .i64 z4, .int .i64 z5, .int .i64 z6] 24)
      have hg3 := Blk.new wo 24 #[.int .i64 z0, .int .i64 z1, .int .i64 z2, .int .i64 z3, .int .i64 z4, .int .i64 z5, .int .i64 z6]
      clear hR hlen
      go_upto_region 7 with fail
      clear e0 e1 e2 e3 e4 e5 e6
      generalize wo.heap.size = gs at *
      generalize wo.alloc _ = W4 at *
      have aq0 := Lib.hid hR3.out
      have am0 := hg3.cell 0; have am1 := hg3.cell 1; have am2 := hg3.cell 2; have am3 := hg3.cell 3
      have aB0 := Lib.hid hg3
      go_region_held3 (fun w' => w'.cell? ⟨gs, 0, none⟩ = some (.int .i64 z0) ∧ w'.cell? ⟨gs, 1, none⟩ = some (.int .i64 z1) ∧ w'.cell? ⟨gs, 2, none⟩ = some (.int .i64 z2) ∧ w'.cell? ⟨gs, 3, none⟩ = some (.int .i64 z3)) (first | go_keep | exact ⟨ak10, ak11, ak12, ak13⟩ | exact ⟨ak20, ak21, ak22, ak23⟩ | exact ⟨ak30, ak31, ak32, ak33⟩ | exact ⟨ak40, ak41, ak42, ak43⟩)
        (first
          | (go_at_call_of 70 (Value.int IntKind.i64 z0); refine (rput_any _ _ (xs) z0 (by exact On.drew aq0.out) (by have := HLEN.out; (try simp only [List.length_append, be8_len]); omega)).mono ?_; rintro e aw1 ⟨av1, rfl, ao1, at1, ag1⟩; have aB1 : Blk aw1 gs _ #[.int .i64 z0, .int .i64 z1, .int .i64 z2, .int .i64 z3, .int .i64 z4, .int .i64 z5, .int .i64 z6] := Blk.touch (show Blk _ gs _ #[.int .i64 z0, .int .i64 z1, .int .i64 z2, .int .i64 z3, .int .i64 z4, .int .i64 z5, .int .i64 z6] from by exact Blk.drew aB0.out) at1 (On.blk_ne aq0.out aB0.out (by decide)); have ak10 := aB1.cell 0; have ak11 := aB1.cell 1; have ak12 := aB1.cell 2; have ak13 := aB1.cell 3)
          | (go_at_call_of 70 (Value.int IntKind.i64 z1); refine (rput_any _ _ (xs ++ be8 z0) z1 ao1 (by have := HLEN.out; (try simp only [List.length_append, be8_len]); omega)).mono ?_; rintro e aw2 ⟨av2, rfl, ao2, at2, ag2⟩; have aB2 : Blk aw2 gs _ #[.int .i64 z0, .int .i64 z1, .int .i64 z2, .int .i64 z3, .int .i64 z4, .int .i64 z5, .int .i64 z6] := Blk.touch aB1 at2 (On.blk_ne ao1 aB1 (by decide)); have ak20 := aB2.cell 0; have ak21 := aB2.cell 1; have ak22 := aB2.cell 2; have ak23 := aB2.cell 3)
          | (go_at_call_of 70 (Value.int IntKind.i64 z2); refine (rput_any _ _ (xs ++ be8 z0 ++ be8 z1) z2 ao2 (by have := HLEN.out; (try simp only [List.length_append, be8_len]); omega)).mono ?_; rintro e aw3 ⟨av3, rfl, ao3, at3, ag3⟩; have aB3 : Blk aw3 gs _ #[.int .i64 z0, .int .i64 z1, .int .i64 z2, .int .i64 z3, .int .i64 z4, .int .i64 z5, .int .i64 z6] := Blk.touch aB2 at3 (On.blk_ne ao2 aB2 (by decide)); have ak30 := aB3.cell 0; have ak31 := aB3.cell 1; have ak32 := aB3.cell 2; have ak33 := aB3.cell 3)
          | (go_at_call_of 70 (Value.int IntKind.i64 z3); refine (rput_any _ _ (xs ++ be8 z0 ++ be8 z1 ++ be8 z2) z3 ao3 (by have := HLEN.out; (try simp only [List.length_append, be8_len]); omega)).mono ?_; rintro e aw4 ⟨av4, rfl, ao4, at4, ag4⟩; have aB4 : Blk aw4 gs _ #[.int .i64 z0, .int .i64 z1, .int .i64 z2, .int .i64 z3, .int .i64 z4, .int .i64 z5, .int .i64 z6] := Blk.touch aB3 at4 (On.blk_ne ao3 aB3 (by decide)); have ak40 := aB4.cell 0; have ak41 := aB4.cell 1; have ak42 := aB4.cell 2; have ak43 := aB4.cell 3))
      have aR := (((((hR3.drewN 1).put hz ao1 at1 ag1).put hz ao2 at2 ag2).put hz ao3 at3 ag3).put hz ao4 at4 ag4)
      clear am0 am1 am2 am3 ak10 ak11 ak12 ak13 ak20 ak21 ak22 ak23 ak30 ak31 ak32 ak33 ak40 ak41 ak42 ak43 ao1 at1 ag1 ao2 at2 ag2 ao3 at3 ag3 ao4 at4 ag4 aB1 aB2 aB3
      go_wp2_with fail
      have bq0 := Lib.hid aR.out
      have bm0 := aB4.cell 4; have bm1 := aB4.cell 5; have bm2 := aB4.cell 6
      have bB0 := Lib.hid aB4
      go_region_held3 (fun w' => w'.cell? ⟨gs, 4, none⟩ = some (.int .i64 z4) ∧ w'.cell? ⟨gs, 5, none⟩ = some (.int .i64 z5) ∧ w'.cell? ⟨gs, 6, none⟩ = some (.int .i64 z6)) (first | go_keep | exact ⟨bk10, bk11, bk12⟩ | exact ⟨bk20, bk21, bk22⟩ | exact ⟨bk30, bk31, bk32⟩)
        (first
          | (go_at_call_of 70 (Value.int IntKind.i64 z4); refine (rput_any _ _ (xs ++ be8 z0 ++ be8 z1 ++ be8 z2 ++ be8 z3) z4 (by exact On.drew bq0.out) (by have := HLEN.out; (try simp only [List.length_append, be8_len]); omega)).mono ?_; rintro e bw1 ⟨bv1, rfl, bo1, bt1, bg1⟩; have bB1 : Blk bw1 gs _ #[.int .i64 z0, .int .i64 z1, .int .i64 z2, .int .i64 z3, .int .i64 z4, .int .i64 z5, .int .i64 z6] := Blk.touch (show Blk _ gs _ #[.int .i64 z0, .int .i64 z1, .int .i64 z2, .int .i64 z3, .int .i64 z4, .int .i64 z5, .int .i64 z6] from by exact Blk.drew bB0.out) bt1 (On.blk_ne bq0.out bB0.out (by decide)); have bk10 := bB1.cell 4; have bk11 := bB1.cell 5; have bk12 := bB1.cell 6)
          | (go_at_call_of 70 (Value.int IntKind.i64 z5); refine (rput_any _ _ (xs ++ be8 z0 ++ be8 z1 ++ be8 z2 ++ be8 z3 ++ be8 z4) z5 bo1 (by have := HLEN.out; (try simp only [List.length_append, be8_len]); omega)).mono ?_; rintro e bw2 ⟨bv2, rfl, bo2, bt2, bg2⟩; have bB2 : Blk bw2 gs _ #[.int .i64 z0, .int .i64 z1, .int .i64 z2, .int .i64 z3, .int .i64 z4, .int .i64 z5, .int .i64 z6] := Blk.touch bB1 bt2 (On.blk_ne bo1 bB1 (by decide)); have bk20 := bB2.cell 4; have bk21 := bB2.cell 5; have bk22 := bB2.cell 6)
          | (go_at_call_of 70 (Value.int IntKind.i64 z6); refine (rput_any _ _ (xs ++ be8 z0 ++ be8 z1 ++ be8 z2 ++ be8 z3 ++ be8 z4 ++ be8 z5) z6 bo2 (by have := HLEN.out; (try simp only [List.length_append, be8_len]); omega)).mono ?_; rintro e bw3 ⟨bv3, rfl, bo3, bt3, bg3⟩; have bB3 : Blk bw3 gs _ #[.int .i64 z0, .int .i64 z1, .int .i64 z2, .int .i64 z3, .int .i64 z4, .int .i64 z5, .int .i64 z6] := Blk.touch bB2 bt3 (On.blk_ne bo2 bB2 (by decide)); have bk30 := bB3.cell 4; have bk31 := bB3.cell 5; have bk32 := bB3.cell 6))
      have bR := ((((aR.drewN 1).put hz bo1 bt1 bg1).put hz bo2 bt2 bg2).put hz bo3 bt3 bg3)
      clear bm0 bm1 bm2 bk10 bk11 bk12 bk20 bk21 bk22 bk30 bk31 bk32 bo1 bt1 bg1 bo2 bt2 bg2 bo3 bt3 bg3 bB1 bB2
      go_wp2_with fail
      go_roundw
      case rel => exact ⟨i + 1, by omega, by go_num, by rw [HE.out]; exact bR⟩
      case measure => simp [intOf]; omega
    · obtain rfl : i = 2 := by omega
      rw [show ((2 : Nat) : Int) = 2 from rfl]
      have hR0 : Run (w.heap.size + 1) W1 wo _ (shotsB f 0) := hR
      clear hlt hi hR c1 hsw
      go_wp2_with fail
      go_loopw [3, 6] (fun ov iv wr => ∃ i : Nat, i ≤ 8 ∧ iv = .int .i64 i ∧ Run (w.heap.size + 1) W1 wr ov (shotsB f i)) (fun _ iv _ => 8 - (intOf iv).toNat)
      case atStart => exact ⟨0, by omega, rfl, hR0⟩
      case round =>
        clear hR0
        obtain ⟨i, hi, rfl, hR⟩ := hrel
        obtain ⟨wp, rfl⟩ : ∃ wp : World, wp = wr := ⟨_, rfl⟩
        by_cases hlt : i < 8
        · have i1 : (0 : Int) ≤ (i : Int) := by omega
          have i2 : (i : Int) < 8 := by omega
          have hlen := shotsB_len f i
          obtain ⟨xs, hxs⟩ : ∃ xs, shotsB f i = xs := ⟨_, rfl⟩
          have HE := Lib.hid (show shotsB f (i + 1) = shotsB f i ++ [onI (f (16 + i * 6))] ++ be8 (f (16 + i * 6 + 1)) ++ be8 (f (16 + i * 6 + 2)) ++ be8 (f (16 + i * 6 + 3)) ++ be8 (f (16 + i * 6 + 4)) ++ be8 (f (16 + i * 6 + 5)) by
            rw [shotsB]; simp [runB, List.append_assoc])
          rw [hxs] at HE hR hlen
          have HLEN := Lib.hid (show xs.length ≤ 1000 by omega)
          obtain ⟨e0, e1, e2, e3, e4, e5, -⟩ := (hR.sb HS.out (by omega)).shotAt hlt
          simp only [sho] at e0 e1 e2 e3 e4 e5
          generalize f (16 + i * 6 + 1) = y1 at *
          generalize f (16 + i * 6 + 2) = y2 at *
          generalize f (16 + i * 6 + 3) = y3 at *
          generalize f (16 + i * 6 + 4) = y4 at *
          generalize f (16 + i * 6 + 5) = y5 at *
          obtain ⟨i0, hi0, hz0, hz1, hz2⟩ := info_parts info8
          clear hlen hxs
          cases hon : onB (f (16 + i * 6))
          · rw [hon] at e0
            have HO := Lib.hid (show shotsB f (i + 1) = xs ++ [0] ++ be8 y1 ++ be8 y2 ++ be8 y3 ++ be8 y4 ++ be8 y5 by rw [HE.out]; simp [onI, hon])
            have hsh := (Blk.new wp 27 #[.bool false, .int .i64 y1, .int .i64 y2, .int .i64 y3, .int .i64 y4, .int .i64 y5]).alloc (.cells #[.int .u8 0] 5)
            have hR3 := (hR.alloc hz (.cells #[.bool false, .int .i64 y1, .int .i64 y2, .int .i64 y3, .int .i64 y4, .int .i64 y5] 27)).alloc hz (.cells #[.int .u8 0] 5)
            have SRC : Src ((wp.alloc (.cells #[.bool false, .int .i64 y1, .int .i64 y2, .int .i64 y3, .int .i64 y4, .int .i64 y5] 27)).alloc (.cells #[.int .u8 0] 5)) (some ⟨wp.heap.size + 1, 0, none⟩) 1 (ub [0]) := by
              have := src_new (wp.alloc (.cells #[.bool false, .int .i64 y1, .int .i64 y2, .int .i64 y3, .int .i64 y4, .int .i64 y5] 27)) 5 1 (ub [0])
              simpa [ub] using this
            have X := Lib.hid hR3.out
            clear hR HE hon
            go_upto_region 16 with (at_builtin; refine wpList_append_on _ (by rfl) _ _ 61 (by rfl) 5 i0 _ 1 1 Try.underlying61 hi0 hz0 hz1 hz2 (by rfl) (by omega) _ _ _ (by rfl) X.out (some ⟨wp.heap.size + 1, 0, none⟩) 1 1 (ub [0]) (by rfl) (by rfl) SRC (ub_one _) (by have := HLEN.out; simp only [maxLen]; omega) (by have := HLEN.out; omega) ?_; intro v5 w5 hon hg hv5)
            have hR4 := hR3.app hz (ys := [0]) hon hg hv5
            have hsh4 := hsh.grown hg (fun e => On.blk_ne X.out hsh (by decide) e.symm)
            clear hR3 SRC X hon hg hv5 hsh e0 e1 e2 e3 e4 e5
            generalize wp.heap.size = gs at *
            have c0q0 := Lib.hid hR4.out
            have c0m0 := hsh4.cell 1; have c0m1 := hsh4.cell 2; have c0m2 := hsh4.cell 3
            have c0B0 := Lib.hid hsh4
            go_region_held3 (fun w' => w'.cell? ⟨gs, 1, none⟩ = some (.int .i64 y1) ∧ w'.cell? ⟨gs, 2, none⟩ = some (.int .i64 y2) ∧ w'.cell? ⟨gs, 3, none⟩ = some (.int .i64 y3)) (first | go_keep | exact ⟨c0k10, c0k11, c0k12⟩ | exact ⟨c0k20, c0k21, c0k22⟩ | exact ⟨c0k30, c0k31, c0k32⟩)
              (first
                | (go_at_call_of 70 (Value.int IntKind.i64 y1); refine (rput_any _ _ (xs ++ [0]) y1 (by exact On.drew c0q0.out) (by have := HLEN.out; (try simp only [List.length_append, be8_len, List.length_cons, List.length_nil]); omega)).mono ?_; rintro e c0w1 ⟨c0v1, rfl, c0o1, c0t1, c0g1⟩; have c0B1 : Blk c0w1 gs _ #[.bool false, .int .i64 y1, .int .i64 y2, .int .i64 y3, .int .i64 y4, .int .i64 y5] := Blk.touch (show Blk _ gs _ #[.bool false, .int .i64 y1, .int .i64 y2, .int .i64 y3, .int .i64 y4, .int .i64 y5] from by exact Blk.drew c0B0.out) c0t1 (On.blk_ne c0q0.out c0B0.out (by decide)); have c0k10 := c0B1.cell 1; have c0k11 := c0B1.cell 2; have c0k12 := c0B1.cell 3)
                | (go_at_call_of 70 (Value.int IntKind.i64 y2); refine (rput_any _ _ (xs ++ [0] ++ be8 y1) y2 c0o1 (by have := HLEN.out; (try simp only [List.length_append, be8_len, List.length_cons, List.length_nil]); omega)).mono ?_; rintro e c0w2 ⟨c0v2, rfl, c0o2, c0t2, c0g2⟩; have c0B2 : Blk c0w2 gs _ #[.bool false, .int .i64 y1, .int .i64 y2, .int .i64 y3, .int .i64 y4, .int .i64 y5] := Blk.touch c0B1 c0t2 (On.blk_ne c0o1 c0B1 (by decide)); have c0k20 := c0B2.cell 1; have c0k21 := c0B2.cell 2; have c0k22 := c0B2.cell 3)
                | (go_at_call_of 70 (Value.int IntKind.i64 y3); refine (rput_any _ _ (xs ++ [0] ++ be8 y1 ++ be8 y2) y3 c0o2 (by have := HLEN.out; (try simp only [List.length_append, be8_len, List.length_cons, List.length_nil]); omega)).mono ?_; rintro e c0w3 ⟨c0v3, rfl, c0o3, c0t3, c0g3⟩; have c0B3 : Blk c0w3 gs _ #[.bool false, .int .i64 y1, .int .i64 y2, .int .i64 y3, .int .i64 y4, .int .i64 y5] := Blk.touch c0B2 c0t3 (On.blk_ne c0o2 c0B2 (by decide)); have c0k30 := c0B3.cell 1; have c0k31 := c0B3.cell 2; have c0k32 := c0B3.cell 3))
            have c0R := ((((hR4.drewN 1).put hz c0o1 c0t1 c0g1).put hz c0o2 c0t2 c0g2).put hz c0o3 c0t3 c0g3)
            clear c0m0 c0m1 c0m2 c0k10 c0k11 c0k12 c0k20 c0k21 c0k22 c0k30 c0k31 c0k32 c0o1 c0t1 c0g1 c0o2 c0t2 c0g2 c0o3 c0t3 c0g3 c0B1 c0B2
            go_wp2_with fail
            have d0q0 := Lib.hid c0R.out
            have d0m0 := c0B3.cell 4; have d0m1 := c0B3.cell 5
            have d0B0 := Lib.hid c0B3
            go_region_held3 (fun w' => w'.cell? ⟨gs, 4, none⟩ = some (.int .i64 y4) ∧ w'.cell? ⟨gs, 5, none⟩ = some (.int .i64 y5)) (first | go_keep | exact ⟨d0k10, d0k11⟩ | exact ⟨d0k20, d0k21⟩)
              (first
                | (go_at_call_of 70 (Value.int IntKind.i64 y4); refine (rput_any _ _ (xs ++ [0] ++ be8 y1 ++ be8 y2 ++ be8 y3) y4 (by exact On.drew d0q0.out) (by have := HLEN.out; (try simp only [List.length_append, be8_len, List.length_cons, List.length_nil]); omega)).mono ?_; rintro e d0w1 ⟨d0v1, rfl, d0o1, d0t1, d0g1⟩; have d0B1 : Blk d0w1 gs _ #[.bool false, .int .i64 y1, .int .i64 y2, .int .i64 y3, .int .i64 y4, .int .i64 y5] := Blk.touch (show Blk _ gs _ #[.bool false, .int .i64 y1, .int .i64 y2, .int .i64 y3, .int .i64 y4, .int .i64 y5] from by exact Blk.drew d0B0.out) d0t1 (On.blk_ne d0q0.out d0B0.out (by decide)); have d0k10 := d0B1.cell 4; have d0k11 := d0B1.cell 5)
                | (go_at_call_of 70 (Value.int IntKind.i64 y5); refine (rput_any _ _ (xs ++ [0] ++ be8 y1 ++ be8 y2 ++ be8 y3 ++ be8 y4) y5 d0o1 (by have := HLEN.out; (try simp only [List.length_append, be8_len, List.length_cons, List.length_nil]); omega)).mono ?_; rintro e d0w2 ⟨d0v2, rfl, d0o2, d0t2, d0g2⟩; have d0B2 : Blk d0w2 gs _ #[.bool false, .int .i64 y1, .int .i64 y2, .int .i64 y3, .int .i64 y4, .int .i64 y5] := Blk.touch d0B1 d0t2 (On.blk_ne d0o1 d0B1 (by decide)); have d0k20 := d0B2.cell 4; have d0k21 := d0B2.cell 5))
            have d0R := (((c0R.drewN 1).put hz d0o1 d0t1 d0g1).put hz d0o2 d0t2 d0g2)
            clear d0m0 d0m1 d0k10 d0k11 d0k20 d0k21 d0o1 d0t1 d0g1 d0o2 d0t2 d0g2 d0B1
            have HLT := hlt
            go_wp2_with fail
            go_roundw
            case rel => exact ⟨i + 1, by omega, by go_num, by rw [HO.out]; exact d0R⟩
            case measure => simp [intOf]; omega
          · rw [hon] at e0
            have HO := Lib.hid (show shotsB f (i + 1) = xs ++ [1] ++ be8 y1 ++ be8 y2 ++ be8 y3 ++ be8 y4 ++ be8 y5 by rw [HE.out]; simp [onI, hon])
            have hsh := (Blk.new wp 27 #[.bool true, .int .i64 y1, .int .i64 y2, .int .i64 y3, .int .i64 y4, .int .i64 y5]).alloc (.cells #[.int .u8 1] 5)
            have hR3 := (hR.alloc hz (.cells #[.bool true, .int .i64 y1, .int .i64 y2, .int .i64 y3, .int .i64 y4, .int .i64 y5] 27)).alloc hz (.cells #[.int .u8 1] 5)
            have SRC : Src ((wp.alloc (.cells #[.bool true, .int .i64 y1, .int .i64 y2, .int .i64 y3, .int .i64 y4, .int .i64 y5] 27)).alloc (.cells #[.int .u8 1] 5)) (some ⟨wp.heap.size + 1, 0, none⟩) 1 (ub [1]) := by
              have := src_new (wp.alloc (.cells #[.bool true, .int .i64 y1, .int .i64 y2, .int .i64 y3, .int .i64 y4, .int .i64 y5] 27)) 5 1 (ub [1])
              simpa [ub] using this
            have X := Lib.hid hR3.out
            clear hR HE hon
            go_upto_region 16 with (at_builtin; refine wpList_append_on _ (by rfl) _ _ 61 (by rfl) 5 i0 _ 1 1 Try.underlying61 hi0 hz0 hz1 hz2 (by rfl) (by omega) _ _ _ (by rfl) X.out (some ⟨wp.heap.size + 1, 0, none⟩) 1 1 (ub [1]) (by rfl) (by rfl) SRC (ub_one _) (by have := HLEN.out; simp only [maxLen]; omega) (by have := HLEN.out; omega) ?_; intro v5 w5 hon hg hv5)
            have hR4 := hR3.app hz (ys := [1]) hon hg hv5
            have hsh4 := hsh.grown hg (fun e => On.blk_ne X.out hsh (by decide) e.symm)
            clear hR3 SRC X hon hg hv5 hsh e0 e1 e2 e3 e4 e5
            generalize wp.heap.size = gs at *
            have c1q0 := Lib.hid hR4.out
            have c1m0 := hsh4.cell 1; have c1m1 := hsh4.cell 2; have c1m2 := hsh4.cell 3
            have c1B0 := Lib.hid hsh4
            go_region_held3 (fun w' => w'.cell? ⟨gs, 1, none⟩ = some (.int .i64 y1) ∧ w'.cell? ⟨gs, 2, none⟩ = some (.int .i64 y2) ∧ w'.cell? ⟨gs, 3, none⟩ = some (.int .i64 y3)) (first | go_keep | exact ⟨c1k10, c1k11, c1k12⟩ | exact ⟨c1k20, c1k21, c1k22⟩ | exact ⟨c1k30, c1k31, c1k32⟩)
              (first
                | (go_at_call_of 70 (Value.int IntKind.i64 y1); refine (rput_any _ _ (xs ++ [1]) y1 (by exact On.drew c1q0.out) (by have := HLEN.out; (try simp only [List.length_append, be8_len, List.length_cons, List.length_nil]); omega)).mono ?_; rintro e c1w1 ⟨c1v1, rfl, c1o1, c1t1, c1g1⟩; have c1B1 : Blk c1w1 gs _ #[.bool true, .int .i64 y1, .int .i64 y2, .int .i64 y3, .int .i64 y4, .int .i64 y5] := Blk.touch (show Blk _ gs _ #[.bool true, .int .i64 y1, .int .i64 y2, .int .i64 y3, .int .i64 y4, .int .i64 y5] from by exact Blk.drew c1B0.out) c1t1 (On.blk_ne c1q0.out c1B0.out (by decide)); have c1k10 := c1B1.cell 1; have c1k11 := c1B1.cell 2; have c1k12 := c1B1.cell 3)
                | (go_at_call_of 70 (Value.int IntKind.i64 y2); refine (rput_any _ _ (xs ++ [1] ++ be8 y1) y2 c1o1 (by have := HLEN.out; (try simp only [List.length_append, be8_len, List.length_cons, List.length_nil]); omega)).mono ?_; rintro e c1w2 ⟨c1v2, rfl, c1o2, c1t2, c1g2⟩; have c1B2 : Blk c1w2 gs _ #[.bool true, .int .i64 y1, .int .i64 y2, .int .i64 y3, .int .i64 y4, .int .i64 y5] := Blk.touch c1B1 c1t2 (On.blk_ne c1o1 c1B1 (by decide)); have c1k20 := c1B2.cell 1; have c1k21 := c1B2.cell 2; have c1k22 := c1B2.cell 3)
                | (go_at_call_of 70 (Value.int IntKind.i64 y3); refine (rput_any _ _ (xs ++ [1] ++ be8 y1 ++ be8 y2) y3 c1o2 (by have := HLEN.out; (try simp only [List.length_append, be8_len, List.length_cons, List.length_nil]); omega)).mono ?_; rintro e c1w3 ⟨c1v3, rfl, c1o3, c1t3, c1g3⟩; have c1B3 : Blk c1w3 gs _ #[.bool true, .int .i64 y1, .int .i64 y2, .int .i64 y3, .int .i64 y4, .int .i64 y5] := Blk.touch c1B2 c1t3 (On.blk_ne c1o2 c1B2 (by decide)); have c1k30 := c1B3.cell 1; have c1k31 := c1B3.cell 2; have c1k32 := c1B3.cell 3))
            have c1R := ((((hR4.drewN 1).put hz c1o1 c1t1 c1g1).put hz c1o2 c1t2 c1g2).put hz c1o3 c1t3 c1g3)
            clear c1m0 c1m1 c1m2 c1k10 c1k11 c1k12 c1k20 c1k21 c1k22 c1k30 c1k31 c1k32 c1o1 c1t1 c1g1 c1o2 c1t2 c1g2 c1o3 c1t3 c1g3 c1B1 c1B2
            go_wp2_with fail
            have d1q0 := Lib.hid c1R.out
            have d1m0 := c1B3.cell 4; have d1m1 := c1B3.cell 5
            have d1B0 := Lib.hid c1B3
            go_region_held3 (fun w' => w'.cell? ⟨gs, 4, none⟩ = some (.int .i64 y4) ∧ w'.cell? ⟨gs, 5, none⟩ = some (.int .i64 y5)) (first | go_keep | exact ⟨d1k10, d1k11⟩ | exact ⟨d1k20, d1k21⟩)
              (first
                | (go_at_call_of 70 (Value.int IntKind.i64 y4); refine (rput_any _ _ (xs ++ [1] ++ be8 y1 ++ be8 y2 ++ be8 y3) y4 (by exact On.drew d1q0.out) (by have := HLEN.out; (try simp only [List.length_append, be8_len, List.length_cons, List.length_nil]); omega)).mono ?_; rintro e d1w1 ⟨d1v1, rfl, d1o1, d1t1, d1g1⟩; have d1B1 : Blk d1w1 gs _ #[.bool true, .int .i64 y1, .int .i64 y2, .int .i64 y3, .int .i64 y4, .int .i64 y5] := Blk.touch (show Blk _ gs _ #[.bool true, .int .i64 y1, .int .i64 y2, .int .i64 y3, .int .i64 y4, .int .i64 y5] from by exact Blk.drew d1B0.out) d1t1 (On.blk_ne d1q0.out d1B0.out (by decide)); have d1k10 := d1B1.cell 4; have d1k11 := d1B1.cell 5)
                | (go_at_call_of 70 (Value.int IntKind.i64 y5); refine (rput_any _ _ (xs ++ [1] ++ be8 y1 ++ be8 y2 ++ be8 y3 ++ be8 y4) y5 d1o1 (by have := HLEN.out; (try simp only [List.length_append, be8_len, List.length_cons, List.length_nil]); omega)).mono ?_; rintro e d1w2 ⟨d1v2, rfl, d1o2, d1t2, d1g2⟩; have d1B2 : Blk d1w2 gs _ #[.bool true, .int .i64 y1, .int .i64 y2, .int .i64 y3, .int .i64 y4, .int .i64 y5] := Blk.touch d1B1 d1t2 (On.blk_ne d1o1 d1B1 (by decide)); have d1k20 := d1B2.cell 4; have d1k21 := d1B2.cell 5))
            have d1R := (((c1R.drewN 1).put hz d1o1 d1t1 d1g1).put hz d1o2 d1t2 d1g2)
            clear d1m0 d1m1 d1k10 d1k11 d1k20 d1k21 d1o1 d1t1 d1g1 d1o2 d1t2 d1g2 d1B1
            have HLT := hlt
            go_wp2_with fail
            go_roundw
            case rel => exact ⟨i + 1, by omega, by go_num, by rw [HO.out]; exact d1R⟩
            case measure => simp [intOf]; omega
        · obtain rfl : i = 8 := by omega
          have hSp := hR.sb HS.out (by omega)
          have hlen := shotsB_len f 8
          have m0 := hSp.score (i := 0) (by omega)
          have m1 := hSp.score (i := 1) (by omega)
          rw [Nat.add_zero] at m0
          rw [show 64 + 1 = 65 from rfl] at m1
          have hbp := hSp.lt
          have hlow := hR.low
          have HR := Lib.hid hR
          have p1 := Lib.hid (fun W v xs (h : Out W v xs) (hl : xs.length ≤ 900000) => rput_any W v xs (f 64) h hl)
          have p2 := Lib.hid (fun W v xs (h : Out W v xs) (hl : xs.length ≤ 900000) => rput_any W v xs (f 65) h hl)
          have hl1 : (shotsB f 8).length ≤ 800000 := by omega
          have HEND := Lib.hid (show stB f = shotsB f 8 ++ be8 (f 64) ++ be8 (f 65) from rfl)
          generalize shotsB f 8 = xs at *
          generalize f 64 = z64 at *
          generalize f 65 = z65 at *
          have oR := Lib.hid hR.out
          clear hR hSp hlen hlt hi
          go_upto_region 18 with fail
          go_region_held3 (fun w' => w'.cell? ⟨w.heap.size, 64, none⟩ = some (.int .i64 z64) ∧ w'.cell? ⟨w.heap.size, 65, none⟩ = some (.int .i64 z65)) (first | go_keep | exact ⟨k0, k1⟩ | exact ⟨l0, l1⟩)
            (first
              | (go_at_call_of 70 (Value.int IntKind.i64 z64); refine (p1.out _ _ _ (by exact On.drew oR.out) (by omega)).mono ?_; rintro e w5 ⟨v5, rfl, o5, t5, g5⟩; have k0 : w5.cell? ⟨w.heap.size, 64, none⟩ = some (.int .i64 z64) := (t5.cell (p := ⟨w.heap.size, 64, none⟩) hbp (fun hk => by have := hlow _ hk; simp at this; omega)).trans m0; have k1 : w5.cell? ⟨w.heap.size, 65, none⟩ = some (.int .i64 z65) := (t5.cell (p := ⟨w.heap.size, 65, none⟩) hbp (fun hk => by have := hlow _ hk; simp at this; omega)).trans m1)
              | (go_at_call_of 70 (Value.int IntKind.i64 z65); refine (p2.out _ v5 _ o5 (by rw [List.length_append, be8_len]; omega)).mono ?_; rintro e w6 ⟨v6, rfl, o6, t6, g6⟩; have l0 : w6.cell? ⟨w.heap.size, 64, none⟩ = some (.int .i64 z64) := (t6.cell (p := ⟨w.heap.size, 64, none⟩) (Nat.lt_of_lt_of_le hbp t5.size) (fun hk => (g5 _ hk).elim (fun e => by have := hlow _ e; simp at this; omega) (fun e => by simp at e; omega))).trans k0; have l1 : w6.cell? ⟨w.heap.size, 65, none⟩ = some (.int .i64 z65) := (t6.cell (p := ⟨w.heap.size, 65, none⟩) (Nat.lt_of_lt_of_le hbp t5.size) (fun hk => (g5 _ hk).elim (fun e => by have := hlow _ e; simp at this; omega) (fun e => by simp at e; omega))).trans k1))
          have R5 := ((HR.out.drewN 1).put hz o5 t5 g5).put hz o6 t6 g6
          rw [← HEND.out] at R5
          clear k0 k1 l0 l1 m0 m1 o5 t5 g5 o6 t6 g6 p1 p2
          go_wp2_with fail
          go_ret
          exact ⟨_, rfl, R5.out, HB.out.trans (R5.below.mono (by omega)), fun g hg => by have := R5.low g hg; omega⟩
end Go.Proofs.Ytlhoffhagfhbcaa.Gm
namespace Go.Proofs.Ytlhoffhagfhbcaa.Gm
open Go.RowKit Go.Sort Go.Proofs.Ytlhoffhagfhbcaa.Num Go.Proofs.Ytlhoffhagfhbcaa.Byt
set_option linter.all false

def cellsAt (w : World) (g : Nat) : Array Value := match w.heap[g]? with
  | some (.cells cs _ (0, 0)) => cs
  | _ => #[]
theorem cellsAt_blk {w : World} {g : Nat} {t : TypeId} {cs : Array Value} (h : Blk w g t cs) : cellsAt w g = cs := by
  unfold Blk at h
  unfold cellsAt
  rw [h]
  rfl
theorem cellsAt_drew (w : World) (g : Nat) : cellsAt w.drew g = cellsAt w g := rfl
theorem cellsAt_inv {w : World} {g : Nat} (h : 0 < (cellsAt w g).size) : ∃ t, w.heap[g]? = some (.cells (cellsAt w g) t (0, 0)) := by
  revert h
  unfold cellsAt
  split
  · rename_i hg
    intro _
    exact ⟨_, hg⟩
  · intro h; simp at h
theorem run33 (w : World) (g : Nat) (h : (cellsAt w g).size = 66) : (Instr.loadAt 31 (.pointer (some ⟨g, 0, none⟩))).run Try.prog w = .ok (.agg (cellsAt w g)) w := by
  obtain ⟨t, hg⟩ := cellsAt_inv (w := w) (g := g) (by omega)
  simp only [Instr.loadAt, Instr.sureAddr, Sem.run_bind, Sem.run_pure, Result.andThen_ok, run_loadVar_row w g t 31 (cellsAt w g) (0, 0) _ hg Try.underlying31 rfl (by rw [h]; exact infoSt)]

/-- A state's load, as the walk meets it: by what the block holds. -/
def loadR (P : Program) (t : TypeId) (v : Value) (w : World) : Result Next := (Sem.run P (Instr.loadAt t v) w).andThen fun u w' => .ok (.value u) w'
theorem exec33 (ev : Operand → Value) (dst : Option Tmp) (x : Operand) (ty : TypeId) (pos : String) (after : Array Edge) (guard : Option (Nat × Bool)) (w : World) :
    (execOp ev { dst := dst, op := Op.load 31 x, type := ty, pos := pos, after := after, guard := guard }).run Try.prog w = loadR Try.prog 31 (ev x) w := by
  unfold execOp loadR
  simp only [Sem.run_bind, Sem.run_pure]
theorem loadR_at (w : World) (g : Nat) (h : (cellsAt w g).size = 66) : loadR Try.prog 31 (.pointer (some ⟨g, 0, none⟩)) w = .ok (.value (.agg (cellsAt w g))) w := by
  unfold loadR
  rw [run33 w g h]
  rfl

set_option maxRecDepth 100000 in
set_option maxHeartbeats 4000000 in
theorem rsum_any (w : World) (f : F) (hw : Wf f) :
    Calls Try.prog 34 #[stV f] w fun e w' => e = .returned (.int .u32 (sumL (stB f))) ∧ Below w.heap.size w w' := by
  obtain ⟨C, LC⟩ := let_of f
  obtain ⟨W1, hW1⟩ : ∃ W1, W1 = w.alloc (.cells C 31) := ⟨_, rfl⟩
  have hS : Blk W1 w.heap.size 31 C := by rw [hW1]; exact Blk.new _ _ _
  have hB : Below w.heap.size w W1 := by rw [hW1]; exact (Below.refl _ w).alloc (Nat.le_refl _) _
  have hif := LC.info
  have p := Lib.hid (rstB_any W1 f hw)
  unfold stV at p ⊢
  rw [← LC.eq] at p ⊢
  have hin := Lib.hid (stB_in f)
  have hlen := stB_len f
  obtain ⟨L, hL⟩ : ∃ L, stB f = L := ⟨_, rfl⟩
  rw [hL] at p hin hlen ⊢
  have HLEN := Lib.hid hlen
  have hl1 : L.length ≤ 1000 := by omega
  clear hw LC hL hlen
  go_enter Try.func34, Try.ntmps34
  go_upto_region 2 with fail
  rw [← hW1]
  clear hW1
  go_wp2_with (refine wpList_load_blk (by rfl) 31 _ (by rfl) w.heap.size (by rfl) _ C _ hS Try.underlying31 (by rfl) hif ?_)
  refine p.out.mono ?_
  rintro e w2 ⟨v, rfl, R⟩
  have hBB := hB.trans (R.below.mono hB.size)
  rcases On.form R.out with ⟨hv, hn, _⟩ | ⟨g, cap, rfl, hnc, hcm, how, hgl, hcell, hfr⟩
  · exact absurd hn (by have := HLEN.out; omega)
  · have HC := Lib.hid hcell
    clear p R hcell hfr how hS hB
    go_wp2_with fail
    go_loopw [3, 5] (fun hv iv wr => ∃ i : Nat, i ≤ L.length ∧ iv = .int .i64 i ∧ hv = .int .u32 ((L.take i).foldl mixS 2166136261) ∧ wr = w2) (fun _ iv _ => L.length - (intOf iv).toNat)
    case atStart => exact ⟨0, by omega, rfl, rfl, by first | trivial | rfl⟩
    case round =>
      obtain ⟨i, hi, rfl, rfl, rfl⟩ := hrel
      by_cases hlt : i < L.length
      · have i0 : (i : Int) < (L.length : Int) := by omega
        have i1 : (0 : Int) ≤ (i : Int) := by omega
        have HS := Lib.hid (sum_take hlt)
        have hnth : L[i]? = some (nth L i) := by simp [nth, List.getD_eq_getElem?_getD, List.getElem?_eq_getElem hlt]
        have hb := hin.out (nth L i) (List.mem_of_getElem? hnth)
        have ck := HC.out i (.int .u8 (nth L i)) (by unfold ub; rw [List.getElem?_map, hnth]; rfl)
        generalize (L.take i).foldl mixS 2166136261 = h at *
        generalize nth L i = b at *
        have hwb : IntKind.u32.wrap b = b := IntWalk.u32_in _ (by omega)
        clear hnth
        go_wp2_with fail
        go_roundw
        case rel => exact ⟨i + 1, by omega, by go_num, by rw [HS.out]; rfl, by first | trivial | rfl⟩
        case measure => simp [intOf]; omega
      · obtain rfl : i = L.length := by omega
        have HP := Lib.hid (show L.take L.length = L from List.take_length)
        go_wp2_with fail
        go_ret
        exact ⟨ret_int (by rw [HP.out]; rfl), hBB⟩
end Go.Proofs.Ytlhoffhagfhbcaa.Gm
namespace Go.Proofs.Ytlhoffhagfhbcaa.Gm
open Go.RowKit Go.Proofs.Ytlhoffhagfhbcaa.Num
set_option linter.all false

set_option maxRecDepth 100000 in
set_option maxHeartbeats 4000000 in
theorem rborn_any (w : World) (i : Nat) (hi : i < 2) :
    Calls Try.prog 78 #[.int .i64 i] w fun e w' => e = .returned (bodV (bornB i)) ∧ Below w.heap.size w w' := by
  have e : i = 0 ∨ i = 1 := by omega
  rcases e with rfl | rfl
  all_goals
    clear hi
    go_enter Try.func78, Try.ntmps78
    go_wp2_with fail
    refine bodyPost_ret (v := bodV (bornB _)) (by simp [results, Try.results78, go_sem, bodV, bodL, bornB]) rfl ⟨rfl, ?_⟩
    repeat (refine Below.setCell ?_ (by simp) _)
    exact (Below.refl _ _).alloc (Nat.le_refl _) _
end Go.Proofs.Ytlhoffhagfhbcaa.Gm
namespace Go.Proofs.Ytlhoffhagfhbcaa.Gm
open Go.RowKit Go.Proofs.Ytlhoffhagfhbcaa.Num
set_option linter.all false

/-- A block of one body. -/
def MB (w : World) (g : Nat) (b : Body) : Prop := Blk w g 24 (bodL b).toArray
section
variable {w w' : World} {g : Nat} {b : Body}
theorem MB.at_ (h : MB w g b) {j : Nat} {v : Value} (e : (bodL b)[j]? = some v) : w.cell? ⟨g, j, none⟩ = some v := by
  rw [Blk.cell h j, List.getElem?_toArray, e]
theorem MB.cells (h : MB w g b) : BodyAt w g 0 b :=
  ⟨h.at_ (j := 0) rfl, by simpa using h.at_ (j := 1) rfl, by simpa using h.at_ (j := 2) rfl, by simpa using h.at_ (j := 3) rfl, by simpa using h.at_ (j := 4) rfl, by simpa using h.at_ (j := 5) rfl, by simpa using h.at_ (j := 6) rfl, fun j => Blk.frozen h j⟩
theorem MB.c0 (h : MB w g b) : w.cell? ⟨g, 0, none⟩ = some (.int .i64 b.x) := h.at_ (j := 0) rfl
theorem MB.c1 (h : MB w g b) : w.cell? ⟨g, 1, none⟩ = some (.int .i64 b.y) := h.at_ (j := 1) rfl
theorem MB.c2 (h : MB w g b) : w.cell? ⟨g, 2, none⟩ = some (.int .i64 b.vx) := h.at_ (j := 2) rfl
theorem MB.c3 (h : MB w g b) : w.cell? ⟨g, 3, none⟩ = some (.int .i64 b.vy) := h.at_ (j := 3) rfl
theorem MB.c4 (h : MB w g b) : w.cell? ⟨g, 4, none⟩ = some (.int .i64 b.life) := h.at_ (j := 4) rfl
theorem MB.c5 (h : MB w g b) : w.cell? ⟨g, 5, none⟩ = some (.int .i64 b.cool) := h.at_ (j := 5) rfl
theorem MB.c6 (h : MB w g b) : w.cell? ⟨g, 6, none⟩ = some (.int .i64 b.facing) := h.at_ (j := 6) rfl
theorem MB.fz (h : MB w g b) (j : Nat) : w.frozen? ⟨g, j, none⟩ = false := Blk.frozen h j
theorem MB.below {B : Nat} (h : MB w g b) (hb : Below B w w') (hg : g < B) : MB w' g b := Blk.below h hb hg
theorem MB.drew (h : MB w g b) : MB w.drew g b := h
theorem MB.x (h : MB w g b) (z : Int) : MB (w.setCell ⟨g, 0, none⟩ (.int .i64 z)) g { b with x := z } := Blk.set_ h 0 _
theorem MB.y (h : MB w g b) (z : Int) : MB (w.setCell ⟨g, 1, none⟩ (.int .i64 z)) g { b with y := z } := Blk.set_ h 1 _
theorem MB.vx (h : MB w g b) (z : Int) : MB (w.setCell ⟨g, 2, none⟩ (.int .i64 z)) g { b with vx := z } := Blk.set_ h 2 _
theorem MB.vy (h : MB w g b) (z : Int) : MB (w.setCell ⟨g, 3, none⟩ (.int .i64 z)) g { b with vy := z } := Blk.set_ h 3 _
theorem MB.life (h : MB w g b) (z : Int) : MB (w.setCell ⟨g, 4, none⟩ (.int .i64 z)) g { b with life := z } := Blk.set_ h 4 _
theorem MB.cool (h : MB w g b) (z : Int) : MB (w.setCell ⟨g, 5, none⟩ (.int .i64 z)) g { b with cool := z } := Blk.set_ h 5 _
theorem MB.facing (h : MB w g b) (z : Int) : MB (w.setCell ⟨g, 6, none⟩ (.int .i64 z)) g { b with facing := z } := Blk.set_ h 6 _
theorem MB.new (w : World) (b : Body) : MB (w.alloc (.cells (bodL b).toArray 24)) w.heap.size b := Blk.new _ _ _
theorem MB.alloc (h : MB w g b) (o : Obj) : MB (w.alloc o) g b := Blk.alloc h o
end

set_option maxRecDepth 100000 in
set_option maxHeartbeats 4000000 in
theorem rmove_any (w : World) (n : Nat) (b : Body) (hn : n < 65536) (hb : BodyOk b) :
    Calls Try.prog 107 #[bodV b, .int .u16 n] w fun e w' => e = .returned (bodV (moveB b n)) ∧ Below w.heap.size w w' := by
  have p1 := Lib.hid (fun w => has_any w n 1 hn (by omega) (by omega))
  have p2 := Lib.hid (fun w => has_any w n 2 hn (by omega) (by omega))
  have p4 := Lib.hid (fun w => has_any w n 4 hn (by omega) (by omega))
  obtain ⟨cs, hcs, hv⟩ : ∃ cs, cs = (bodL b).toArray ∧ bodV b = .agg cs := ⟨_, rfl, rfl⟩
  rw [hv]
  obtain ⟨W1, hW1⟩ : ∃ W1, W1 = (w.alloc (.cells cs 24)).alloc (.cells #[.int .i64 0, .int .i64 0, .int .i64 0, .int .i64 0, .int .i64 0, .int .i64 0, .int .i64 0] 24) := ⟨_, rfl⟩
  have hM : MB W1 w.heap.size b := by rw [hW1, hcs]; exact (MB.new w b).alloc _
  have hR : MB W1 (w.heap.size + 1) ⟨0, 0, 0, 0, 0, 0, 0⟩ := by
    rw [hW1]
    have := MB.new (w.alloc (.cells cs 24)) ⟨0, 0, 0, 0, 0, 0, 0⟩
    simpa [bodL] using this
  have hB : Below w.heap.size w W1 := by rw [hW1]; exact ((Below.refl _ _).alloc (Nat.le_refl _) _).alloc (by simp) _
  clear hcs hv
  have HM := Lib.hid hM
  have HR := Lib.hid hR
  have HB := Lib.hid hB
  clear hM hR hB
  go_enter Try.func107, Try.ntmps107
  go_upto_region 1 with fail
  rw [← hW1]
  clear hW1
  go_wp2_with fail
  refine (p1.out _).mono ?_
  rintro e w2 ⟨rfl, rfl⟩
  go_wp2_with fail
  refine (p2.out _).mono ?_
  rintro e w2 ⟨rfl, rfl⟩
  go_upto_if 14 with fail
  go_cut [5, 6] (fun v5 v6 wx => MB wx w.heap.size (walkB b n) ∧ MB wx (w.heap.size + 1) ⟨0, 0, 0, 0, 0, 0, 0⟩ ∧ Below w.heap.size w wx)
  case first =>
    have c2 := HM.out.c2
    have c6 := HM.out.c6
    have x2 := HM.out.fz 2
    have x6 := HM.out.fz 6
    have hv0 := hb.vx0
    have hv1 := hb.vx1
    by_cases h1 : n % 2 = n / 2 % 2
    · have E := Lib.hid (show walkB b n = { b with vx := mulV b.vx } by unfold walkB; rw [if_pos h1])
      have e : (decide (n % 2 = 1) == decide (n / 2 % 2 = 1)) = true := by rw [h1]; simp
      rw [e]
      have pM := Lib.hid (fun w => rmul_any w b.vx hv0 hv1)
      generalize mulV b.vx = q at *
      clear e h1
      go_wp2_with fail
      refine (pM.out _).mono ?_
      rintro e w2 ⟨rfl, bm⟩
      have M2 := HM.out.below bm (Blk.lt HM.out)
      have d2 := M2.c2
      have f2 := M2.fz 2
      have R2 := HR.out.below bm (Blk.lt HR.out)
      have B2 := HB.out.trans (bm.mono HB.out.size)
      go_wp2_with fail
      go_meet
      exact ⟨by rw [E.out]; exact M2.vx _, Blk.far R2 (by simp) _, B2.setCell (by simp) _⟩
    · have hz : (n % 2 = 1 ∧ n / 2 % 2 = 0) ∨ (n % 2 = 0 ∧ n / 2 % 2 = 1) := by omega
      have hh0 := hold_bd (b.vx + -16384)
      have hh1 := hold_bd (b.vx + 16384)
      rcases hz with ⟨h, h'⟩ | ⟨h, h'⟩
      · have E := Lib.hid (show walkB b n = { b with facing := -1, vx := clampV (hold (b.vx + -16384)) (-196608) 196608 } by unfold walkB; rw [if_neg h1, if_pos h])
        have e1 : decide (n % 2 = 1) = true := by rw [h]; rfl
        have e2 : decide (n / 2 % 2 = 1) = false := by rw [h']; rfl
        rw [e1, e2]
        have pA := Lib.hid (fun w => Num.add_any w b.vx (-16384) (by omega) (by omega) (by omega) (by omega))
        generalize hold (b.vx + -16384) = q at *
        have pC := Lib.hid (fun w => rclamp_any w q (-196608) 196608 (by omega))
        clear e1 e2 h h' h1
        go_wp2_with fail
        have M1 := (HM.out.facing 1).facing (-1)
        have R1 := Blk.far (Blk.far HR.out (p := ⟨w.heap.size, 6, none⟩) (by simp) (.int .i64 1)) (p := ⟨w.heap.size, 6, none⟩) (by simp) (.int .i64 (-1))
        have B1 := (HB.out.setCell (p := ⟨w.heap.size, 6, none⟩) (by simp) (.int .i64 1)).setCell (p := ⟨w.heap.size, 6, none⟩) (by simp) (.int .i64 (-1))
        refine (pA.out _).mono ?_
        rintro e w2 ⟨rfl, bm⟩
        have M2 := M1.below bm (Blk.lt M1)
        have d2 := M2.c2
        have f2 := M2.fz 2
        have R2 := R1.below bm (Blk.lt R1)
        have B2 := B1.trans (bm.mono B1.size)
        go_wp2_with fail
        refine (pC.out _).mono ?_
        rintro e w3 ⟨rfl, rfl⟩
        go_wp2_with fail
        go_meet
        exact ⟨by rw [E.out]; exact M2.vx _, Blk.far R2 (by simp) _, B2.setCell (by simp) _⟩
      · have E := Lib.hid (show walkB b n = { b with facing := 1, vx := clampV (hold (b.vx + 16384)) (-196608) 196608 } by unfold walkB; rw [if_neg h1, if_neg (by omega)])
        have e1 : decide (n % 2 = 1) = false := by rw [h]; rfl
        have e2 : decide (n / 2 % 2 = 1) = true := by rw [h']; rfl
        rw [e1, e2]
        have pA := Lib.hid (fun w => Num.add_any w b.vx 16384 (by omega) (by omega) (by omega) (by omega))
        generalize hold (b.vx + 16384) = q at *
        have pC := Lib.hid (fun w => rclamp_any w q (-196608) 196608 (by omega))
        clear e1 e2 h h' h1
        go_wp2_with fail
        have M1 := HM.out.facing 1
        have R1 := Blk.far HR.out (p := ⟨w.heap.size, 6, none⟩) (by simp) (.int .i64 1)
        have B1 := HB.out.setCell (p := ⟨w.heap.size, 6, none⟩) (by simp) (.int .i64 1)
        refine (pA.out _).mono ?_
        rintro e w2 ⟨rfl, bm⟩
        have M2 := M1.below bm (Blk.lt M1)
        have d2 := M2.c2
        have f2 := M2.fz 2
        have R2 := R1.below bm (Blk.lt R1)
        have B2 := B1.trans (bm.mono B1.size)
        go_wp2_with fail
        refine (pC.out _).mono ?_
        rintro e w3 ⟨rfl, rfl⟩
        go_wp2_with fail
        go_meet
        exact ⟨by rw [E.out]; exact M2.vx _, Blk.far R2 (by simp) _, B2.setCell (by simp) _⟩
  case rest =>
    obtain ⟨M1, R1, B1⟩ := hcut
    have HM := Lib.hid M1
    have HR := Lib.hid R1
    have HB := Lib.hid B1
    clear M1 R1 B1
    have hb1 := walkB_ok hb n
    have HMB := Lib.hid (show moveB b n = slideB (fallB (walkB b n) n) from rfl)
    clear p1 p2
    generalize walkB b n = b1 at *
    have c1 := HM.out.c1
    go_upto_region 8 with fail
    go_cut [36] (fun v wx => v = .bool (decide (n / 4 % 2 = 1 ∧ b1.y = 0)) ∧ MB wx w.heap.size b1 ∧ MB wx (w.heap.size + 1) ⟨0, 0, 0, 0, 0, 0, 0⟩ ∧ Below w.heap.size w wx)
    case first =>
      by_cases h4 : n / 4 % 2 = 1
      · have e4 : decide (n / 4 % 2 = 1) = true := by rw [h4]; rfl
        rw [e4] at p4
        have E := Lib.hid (show Value.bool (b1.y == 0) = .bool (decide (n / 4 % 2 = 1 ∧ b1.y = 0)) by
          by_cases hy : b1.y = 0
          · simp [h4, hy]
          · simp [h4, hy])
        generalize decide (n / 4 % 2 = 1 ∧ b1.y = 0) = dd at *
        clear e4 h4
        go_wp2_with fail
        refine (p4.out _).mono ?_
        rintro e w2 ⟨rfl, rfl⟩
        go_wp2_with fail
        go_meet
        exact ⟨E.out, HM.out, HR.out, HB.out⟩
      · have e4 : decide (n / 4 % 2 = 1) = false := by simpa using h4
        rw [e4] at p4
        have E := Lib.hid (show Value.bool false = .bool (decide (n / 4 % 2 = 1 ∧ b1.y = 0)) by simp [h4])
        generalize decide (n / 4 % 2 = 1 ∧ b1.y = 0) = dd at *
        clear e4 h4
        go_wp2_with fail
        refine (p4.out _).mono ?_
        rintro e w2 ⟨rfl, rfl⟩
        go_wp2_with fail
        go_meet
        exact ⟨E.out, HM.out, HR.out, HB.out⟩
    case rest =>
      obtain ⟨rfl, M1, R1, B1⟩ := hcut
      clear HM HR HB p4
      have HM := Lib.hid M1
      have HR := Lib.hid R1
      have HB := Lib.hid B1
      have c3 := M1.c3
      have f3 := M1.fz 3
      clear M1 R1 B1 c1
      go_upto_if 36 with fail
      go_cut [36] (fun v36 wx => MB wx w.heap.size { b1 with vy := jumpV b1 n } ∧ MB wx (w.heap.size + 1) ⟨0, 0, 0, 0, 0, 0, 0⟩ ∧ Below w.heap.size w wx)
      case first =>
        by_cases hj : n / 4 % 2 = 1 ∧ b1.y = 0
        · have E := Lib.hid (show jumpV b1 n = 327680 by unfold jumpV; rw [if_pos hj])
          have e : decide (n / 4 % 2 = 1 ∧ b1.y = 0) = true := by simpa using hj
          rw [e]
          clear hj e
          go_wp2_with fail
          go_meet
          exact ⟨by rw [E.out]; exact HM.out.vy 327680, Blk.far HR.out (by simp) _, HB.out.setCell (by simp) _⟩
        · have E := Lib.hid (show jumpV b1 n = b1.vy by unfold jumpV; rw [if_neg hj])
          have e : decide (n / 4 % 2 = 1 ∧ b1.y = 0) = false := by simpa using hj
          rw [e]
          clear hj e
          go_wp2_with fail
          go_meet
          exact ⟨by rw [E.out]; exact HM.out, HR.out, HB.out⟩
      case rest =>
        obtain ⟨M1, R1, B1⟩ := hcut
        clear HM HR HB c3 f3
        have HM := Lib.hid M1
        have HR := Lib.hid R1
        have HB := Lib.hid B1
        have c1 := M1.c1
        have c3 := M1.c3
        clear M1 R1 B1
        dsimp only at c1 c3
        have HD : ∃ q, q = dropV b1 n := ⟨_, rfl⟩
        have hj := jumpV_in hb1 n
        have hdv := dropV_in hb1 n
        have ED := Lib.hid (show dropV b1 n = if 0 < b1.y ∨ jumpV b1 n ≠ 0 then hold (jumpV b1 n - 21845) else jumpV b1 n from rfl)
        have EF := Lib.hid (show fallB b1 n = if hold (b1.y + dropV b1 n) ≤ 0 then { b1 with y := 0, vy := 0 } else { b1 with y := hold (b1.y + dropV b1 n), vy := dropV b1 n } from rfl)
        clear HD
        have hfb := fallB_ok hb1 n
        generalize fallB b1 n = fb at *
        generalize dropV b1 n = dv at *
        generalize jumpV b1 n = jv at *
        go_upto_region 10 with fail
        go_cut [45] (fun v wx => v = .bool (decide (0 < b1.y ∨ jv ≠ 0)) ∧ wx = wc)
        case first =>
          by_cases hy : 0 < b1.y
          · have e : (Value.bool true) = .bool (decide (0 < b1.y ∨ jv ≠ 0)) := by simp [hy]
            have E := Lib.hid e
            generalize decide (0 < b1.y ∨ jv ≠ 0) = dd at *
            clear e
            go_wp2_with fail
            go_meet
            exact ⟨E.out, rfl⟩
          · by_cases hz : jv = 0
            · have hz' : (jv == 0) = true := by simpa using hz
              have e : (Value.bool (jv != 0)) = .bool (decide (0 < b1.y ∨ jv ≠ 0)) := by simp [hy, hz]
              have E := Lib.hid e
              generalize decide (0 < b1.y ∨ jv ≠ 0) = dd at *
              clear e hz
              go_wp2_with fail
              go_meet
              exact ⟨E.out, rfl⟩
            · have hz' : (jv == 0) = false := by simpa using hz
              have e : (Value.bool (jv != 0)) = .bool (decide (0 < b1.y ∨ jv ≠ 0)) := by simp [hy, hz]
              have E := Lib.hid e
              generalize decide (0 < b1.y ∨ jv ≠ 0) = dd at *
              clear e hz
              go_wp2_with fail
              go_meet
              exact ⟨E.out, rfl⟩
        case rest =>
          obtain ⟨rfl, rfl⟩ := hcut
          clear c1
          go_upto_if 45 with fail
          go_cut [45] (fun v45 wx => MB wx w.heap.size { b1 with vy := dv } ∧ MB wx (w.heap.size + 1) ⟨0, 0, 0, 0, 0, 0, 0⟩ ∧ Below w.heap.size w wx)
          case first =>
            by_cases hh : 0 < b1.y ∨ jv ≠ 0
            · have E := Lib.hid (show dv = hold (jv - 21845) by rw [ED.out, if_pos hh])
              have e : decide (0 < b1.y ∨ jv ≠ 0) = true := by simpa using hh
              rw [e]
              have pS := Lib.hid (fun w => Num.sub_any w jv 21845 hj.1 hj.2 (by omega) (by omega))
              generalize hold (jv - 21845) = q at *
              clear e hh
              go_wp2_with fail
              refine (pS.out _).mono ?_
              rintro e w2 ⟨rfl, bm⟩
              have M2 := HM.out.below bm (Blk.lt HM.out)
              have d2 := M2.c3
              have f2 := M2.fz 3
              have R2 := HR.out.below bm (Blk.lt HR.out)
              have B2 := HB.out.trans (bm.mono HB.out.size)
              go_wp2_with fail
              go_meet
              exact ⟨by rw [E.out]; exact M2.vy _, Blk.far R2 (by simp) _, B2.setCell (by simp) _⟩
            · have E := Lib.hid (show dv = jv by rw [ED.out, if_neg hh])
              have e : decide (0 < b1.y ∨ jv ≠ 0) = false := by simpa using hh
              rw [e]
              clear e hh
              go_wp2_with fail
              go_meet
              exact ⟨by rw [E.out]; exact HM.out, HR.out, HB.out⟩
          case rest =>
            obtain ⟨M1, R1, B1⟩ := hcut
            clear HM HR HB c3
            have HM := Lib.hid M1
            have HR := Lib.hid R1
            have HB := Lib.hid B1
            have c1 := M1.c1
            have c3 := M1.c3
            clear M1 R1 B1
            dsimp only at c1 c3
            have hy0 := hb1.y0
            have hy1 := hb1.y1
            have pA := Lib.hid (fun w => Num.add_any w b1.y dv (by omega) (by omega) hdv.1 hdv.2)
            generalize hold (b1.y + dv) = q at *
            go_wp2_with fail
            refine (pA.out _).mono ?_
            rintro e w2 ⟨rfl, bm⟩
            have M2 := HM.out.below bm (Blk.lt HM.out)
            have d1 := M2.c1
            have d3 := M2.c3
            have f1 := M2.fz 1
            have f3 := M2.fz 3
            have R2 := HR.out.below bm (Blk.lt HR.out)
            have B2 := HB.out.trans (bm.mono HB.out.size)
            have M3 := Lib.hid (M2.y q)
            have R3 := Lib.hid (Blk.far R2 (p := ⟨w.heap.size, 1, none⟩) (by simp) (.int .i64 q))
            have B3 := Lib.hid (B2.setCell (p := ⟨w.heap.size, 1, none⟩) (by simp) (.int .i64 q))
            clear M2 R2 B2 c1 c3
            go_upto_if 58 with fail
            go_cut [58] (fun v58 wx => MB wx w.heap.size fb ∧ MB wx (w.heap.size + 1) ⟨0, 0, 0, 0, 0, 0, 0⟩ ∧ Below w.heap.size w wx)
            case first =>
              by_cases hh : q ≤ 0
              · have E := Lib.hid (show fb = { b1 with y := 0, vy := 0 } by rw [EF.out, if_pos hh])
                go_wp2_with fail
                go_meet
                exact ⟨by rw [E.out]; exact (M3.out.y 0).vy 0, Blk.far (Blk.far R3.out (by simp) _) (by simp) _, (B3.out.setCell (by simp) _).setCell (by simp) _⟩
              · have E := Lib.hid (show fb = { b1 with y := q, vy := dv } by rw [EF.out, if_neg hh])
                go_wp2_with fail
                go_meet
                exact ⟨by rw [E.out]; exact M3.out, R3.out, B3.out⟩
            case rest =>
              obtain ⟨M1, R1, B1⟩ := hcut
              clear HM HR HB M3 R3 B3 d1 d3 f1 f3 EF ED pA
              have HM := Lib.hid M1
              have HR := Lib.hid R1
              have HB := Lib.hid B1
              have c0 := M1.c0
              have c2 := M1.c2
              clear M1 R1 B1
              have x0 := hfb.x0
              have x1 := hfb.x1
              have v0 := hfb.vx0
              have v1 := hfb.vx1
              have pA := Lib.hid (fun w => Num.add_any w fb.x fb.vx (by omega) (by omega) (by omega) (by omega))
              have EL := Lib.hid (show slideB fb = if clampV (hold (fb.x + fb.vx)) 0 13107200 = hold (fb.x + fb.vx) then { fb with x := clampV (hold (fb.x + fb.vx)) 0 13107200 } else { fb with x := clampV (hold (fb.x + fb.vx)) 0 13107200, vx := 0 } from rfl)
              generalize hold (fb.x + fb.vx) = z at *
              have pC := Lib.hid (fun w => rclamp_any w z 0 13107200 (by omega))
              generalize clampV z 0 13107200 = cz at *
              go_wp2_with fail
              refine (pA.out _).mono ?_
              rintro e w3 ⟨rfl, bm⟩
              have M2 := HM.out.below bm (Blk.lt HM.out)
              have d0 := M2.c0
              have d2 := M2.c2
              have f0 := M2.fz 0
              have f2 := M2.fz 2
              have R2 := HR.out.below bm (Blk.lt HR.out)
              have B2 := HB.out.trans (bm.mono HB.out.size)
              have M3 := Lib.hid (M2.x cz)
              have R3 := Lib.hid (Blk.far R2 (p := ⟨w.heap.size, 0, none⟩) (by simp) (.int .i64 cz))
              have B3 := Lib.hid (B2.setCell (p := ⟨w.heap.size, 0, none⟩) (by simp) (.int .i64 cz))
              clear M2 R2 B2 c0 c2
              go_wp2_with fail
              refine (pC.out _).mono ?_
              rintro e w4 ⟨rfl, rfl⟩
              go_upto_if 72 with fail
              go_cut [72] (fun v72 wx => MB wx w.heap.size (slideB fb) ∧ MB wx (w.heap.size + 1) ⟨0, 0, 0, 0, 0, 0, 0⟩ ∧ Below w.heap.size w wx)
              case first =>
                by_cases hh : cz = z
                · have E := Lib.hid (show slideB fb = { fb with x := cz } by rw [EL.out, if_pos hh])
                  have hz' : (z != cz) = false := by simp [hh]
                  clear hh
                  go_wp2_with fail
                  go_meet
                  exact ⟨by rw [E.out]; exact M3.out, R3.out, B3.out⟩
                · have E := Lib.hid (show slideB fb = { fb with x := cz, vx := 0 } by rw [EL.out, if_neg hh])
                  have hz' : (z != cz) = true := by simpa using fun e => hh e.symm
                  have hz2 : (z == cz) = false := by simpa using fun e => hh e.symm
                  clear hh
                  go_wp2_with fail
                  go_meet
                  exact ⟨by rw [E.out]; exact M3.out.vx 0, Blk.far R3.out (by simp) _, B3.out.setCell (by simp) _⟩
              case rest =>
                obtain ⟨M1, R1, B1⟩ := hcut
                rw [← HMB.out] at M1
                obtain ⟨mb, hmb⟩ : ∃ mb, moveB b n = mb := ⟨_, rfl⟩
                rw [hmb] at M1
                have HMM := Lib.hid hmb
                clear hmb HMB
                have c0 := M1.c0
                have c1 := M1.c1
                have c2 := M1.c2
                have c3 := M1.c3
                have c4 := M1.c4
                have c5 := M1.c5
                have c6 := M1.c6
                have r0 := R1.c0
                have r1 := R1.c1
                have r2 := R1.c2
                have r3 := R1.c3
                have r4 := R1.c4
                have r5 := R1.c5
                have r6 := R1.c6
                have g0 := R1.fz 0
                have g1 := R1.fz 1
                have g2 := R1.fz 2
                have g3 := R1.fz 3
                have g4 := R1.fz 4
                have g5 := R1.fz 5
                have g6 := R1.fz 6
                have HB9 := Lib.hid B1
                clear M1 R1 B1 d0 d2 f0 f2
                go_wp2_with fail
                refine bodyPost_ret (v := bodV mb) (by simp [results, Try.results107, go_sem, r0, r1, r2, r3, r4, r5, r6, bodV, bodL]) rfl ⟨by rw [HMM.out], ?_⟩
                repeat (refine Below.setCell ?_ (by simp) _)
                exact HB9.out
end Go.Proofs.Ytlhoffhagfhbcaa.Gm
