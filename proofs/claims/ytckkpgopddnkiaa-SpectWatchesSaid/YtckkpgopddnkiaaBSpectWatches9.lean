/-
  Texts joined: Rbytes, Whole, Rgm. No condition.
-/
import Derived.Test.YtckkpgopddnkiaaBSpectWatches8
import Derived.Lib.QuietBelow
namespace Go.Proofs.Ytckkpgopddnkiaa.Gm
open Go.RowKit Go.Sort Go.Proofs.Ytckkpgopddnkiaa.Num Go.Proofs.Ytckkpgopddnkiaa.Byt
set_option linter.all false

set_option maxRecDepth 100000 in
set_option maxHeartbeats 8000000 in
theorem rstB_any (w : World) (f : F) (hw : Wf f) :
    Calls Try.prog 42 #[stV f] w fun e w' => ∃ v, e = .returned v ∧ Run w.heap.size w w' v (stB f) := by
  obtain ⟨W1, hW1⟩ : ∃ W1, W1 = w.alloc (.cells (stA f) 53) := ⟨_, rfl⟩
  have hS : SB W1 w.heap.size 53 f := by rw [hW1]; exact SB.new w _ f
  have hB : Below w.heap.size w W1 := by rw [hW1]; exact (Below.refl _ w).alloc (Nat.le_refl _) _
  have hz : w.heap.size + 1 ≤ W1.heap.size := by rw [hW1]; simp
  have c0 := hS.int (j := 0) (by omega) (by omega) (by omega)
  have HS := Lib.hid hS
  have HB := Lib.hid hB
  have hsd := hw.seed
  have R0 : Run (w.heap.size + 1) W1 W1 (.slice none 0 0) [] := ⟨Out.nil _, Below.refl _ _, fun g hg => by simp [Value.ownBlock] at hg⟩
  have p1 := Lib.hid (rput_any W1 _ [] (f 0) R0.out (by simp))
  have HR0 := Lib.hid R0
  unfold stV
  clear hS hB hw R0
  go_enter Try.func42, Try.ntmps42
  go_upto_region 1 with fail
  rw [← hW1]
  clear hW1
  go_wp2_with fail
  refine p1.out.mono ?_
  rintro e w2 ⟨v1, rfl, o1, t1, g1⟩
  have R1 := HR0.out.put hz o1 t1 g1
  have hS2 := R1.sb HS.out (by omega)
  have c1 := hS2.seed
  obtain ⟨sd, hsd1⟩ : ∃ sd : Nat, f 1 = (sd : Int) := ⟨(f 1).toNat, by omega⟩
  have hsw : IntKind.u64.wrap (sd : Int) = (sd : Int) := IntWalk.u64_in _ (by omega)
  rw [hsd1] at c1
  have p2 := Lib.hid (rbytes_any w2 sd 4 (by omega) (.inr rfl))
  have HSD := Lib.hid hsd1
  have HR1 := Lib.hid R1
  clear c0 p1 o1 t1 g1 hS2 hsd1 R1 HR0 hsd
  go_wp2_with fail
  refine p2.out.mono ?_
  rintro e w3 ⟨v2, rfl, o2, b2, g2⟩
  have X := Lib.hid (On.below HR1.out.out b2 (On.lt HR1.out.out))
  obtain ⟨a1, ca, rfl, hc1, hm1⟩ := o2.slice
  have hsrc := o2.src
  have hel : (ub (endB sd 4)).length = 4 * 1 := by rw [ub_len, endB_len]
  obtain ⟨i0, hi, hz0, hz1, hz2⟩ := info_parts info8
  go_upto_region 3 with (at_builtin; refine wpList_append_on _ (by rfl) _ _ 81 (by rfl) 5 i0 _ 1 1 Try.underlying81 hi hz0 hz1 hz2 (by rfl) (by omega) v1 8 _ (by rfl) X.out a1 4 ca (ub (endB sd 4)) (by rfl) hel hsrc (ub_one _) (by simp only [maxLen]; omega) (by omega) ?_; intro v' w' hon hg hv')
  have R3 : Run (w.heap.size + 1) W1 w' v' (bodiesB f 0) := by
    have R2 : Run (w.heap.size + 1) W1 w3 v1 ([] ++ be8 (f 0)) := ⟨X.out, HR1.out.below.trans (b2.mono (Nat.le_trans hz HR1.out.below.size)), HR1.out.low⟩
    have := R2.app hz (ys := endB sd 4) hon hg hv'
    rw [endB4, ← HSD.out] at this
    exact this
  clear X o2 hsrc hel hon hg hv' p2 b2 g2 HR1 hc1 hm1
  go_wp2_with fail
  go_loopw [3, 4] (fun ov iv wr => ∃ i : Nat, i ≤ 2 ∧ iv = .int .i64 i ∧ Run (w.heap.size + 1) W1 wr ov (bodiesB f i)) (fun _ iv _ => 2 - (intOf iv).toNat)
  case atStart => exact ⟨0, by omega, rfl, R3⟩
  case round =>
    clear R3
    obtain ⟨i, hi, rfl, hR⟩ := hrel
    obtain ⟨wo, rfl⟩ : ∃ wo : World, wo = wr := ⟨_, rfl⟩
    by_cases hlt : i < 2
    · have i1 : (0 : Int) ≤ (i : Int) := by omega
      have i2 : (i : Int) < 2 := by omega
      have hlen := bodiesB_len f i
      have HE : ∃ xs, bodiesB f i = xs := ⟨_, rfl⟩
      obtain ⟨xs, hxs⟩ := HE
      have HE := Lib.hid (show bodiesB f (i + 1) = bodiesB f i ++ be8 (f (2 + i * 7)) ++ be8 (f (2 + i * 7 + 1)) ++ be8 (f (2 + i * 7 + 2)) ++ be8 (f (2 + i * 7 + 3)) ++ be8 (f (2 + i * 7 + 4)) ++ be8 (f (2 + i * 7 + 5)) ++ be8 (f (2 + i * 7 + 6)) by
        rw [bodiesB]; simp [runB, List.append_assoc])
      rw [hxs] at HE hR hlen
      have HLEN := Lib.hid (show xs.length ≤ 1000 by omega)
      obtain ⟨e0, e1, e2, e3, e4, e5, e6, -⟩ := (hR.sb HS.out (by omega)).bodyAt hlt
      simp only [bod] at e0 e1 e2 e3 e4 e5 e6
      generalize f (2 + i * 7) = z0 at *
      generalize f (2 + i * 7 + 1) = z1 at *
      generalize f (2 + i * 7 + 2) = z2 at *
      generalize f (2 + i * 7 + 3) = z3 at *
      generalize f (2 + i * 7 + 4) = z4 at *
      generalize f (2 + i * 7 + 5) = z5 at *
      generalize f (2 + i * 7 + 6) = z6 at *
      have hR3 := hR.alloc hz (.cells #[.int .i64 z0, .int .i64 z1, .int .i64 z2, .int .i64 z3, .int .i64 z4, .int .i64 z5, .int .i64 z6] 46)
      have hg3 := Blk.new wo 46 #[.int .i64 z0, .int .i64 z1, .int .i64 z2, .int .i64 z3, .int .i64 z4, .int .i64 z5, .int .i64 z6]
      clear hR hlen
      go_upto_region 7 with fail
      clear e0 e1 e2 e3 e4 e5 e6
      generalize wo.heap.size = gs at *
      generalize wo.alloc _ = W4 at *
      have aq0 := Lib.hid hR3.out
      have am0 := hg3.cell 0; have am1 := hg3.cell 1; have am2 := hg3.cell 2; have am3 := hg3.cell 3
      have aB0 := Lib.hid hg3
      go_region_held3 (fun w' => w'.cell? ⟨gs, 0, none⟩ = some (.int .i64 z0) ∧ w'.cell? ⟨gs, 1, none⟩ = some (.int .i64 z1) ∧ w'.cell? ⟨gs, 2, none⟩ = some (.int .i64 z2) ∧ w'.cell? ⟨gs, 3, none⟩ = some (.int .i64 z3)) (first | go_keep | exact ⟨ak10, ak11, ak12, ak13⟩ | exact ⟨ak20, ak21, ak22, ak23⟩ | exact ⟨ak30, ak31, ak32, ak33⟩ | exact ⟨ak40, ak41, ak42, ak43⟩)
        (first
          | (go_at_call_of 82 (Value.int IntKind.i64 z0); refine (rput_any _ _ (xs) z0 (by exact On.drew aq0.out) (by have := HLEN.out; (try simp only [List.length_append, be8_len]); omega)).mono ?_; rintro e aw1 ⟨av1, rfl, ao1, at1, ag1⟩; have aB1 : Blk aw1 gs _ #[.int .i64 z0, .int .i64 z1, .int .i64 z2, .int .i64 z3, .int .i64 z4, .int .i64 z5, .int .i64 z6] := Blk.touch (show Blk _ gs _ #[.int .i64 z0, .int .i64 z1, .int .i64 z2, .int .i64 z3, .int .i64 z4, .int .i64 z5, .int .i64 z6] from by exact Blk.drew aB0.out) at1 (On.blk_ne aq0.out aB0.out (by decide)); have ak10 := aB1.cell 0; have ak11 := aB1.cell 1; have ak12 := aB1.cell 2; have ak13 := aB1.cell 3)
          | (go_at_call_of 82 (Value.int IntKind.i64 z1); refine (rput_any _ _ (xs ++ be8 z0) z1 ao1 (by have := HLEN.out; (try simp only [List.length_append, be8_len]); omega)).mono ?_; rintro e aw2 ⟨av2, rfl, ao2, at2, ag2⟩; have aB2 : Blk aw2 gs _ #[.int .i64 z0, .int .i64 z1, .int .i64 z2, .int .i64 z3, .int .i64 z4, .int .i64 z5, .int .i64 z6] := Blk.touch aB1 at2 (On.blk_ne ao1 aB1 (by decide)); have ak20 := aB2.cell 0; have ak21 := aB2.cell 1; have ak22 := aB2.cell 2; have ak23 := aB2.cell 3)
          | (go_at_call_of 82 (Value.int IntKind.i64 z2); refine (rput_any _ _ (xs ++ be8 z0 ++ be8 z1) z2 ao2 (by have := HLEN.out; (try simp only [List.length_append, be8_len]); omega)).mono ?_; rintro e aw3 ⟨av3, rfl, ao3, at3, ag3⟩; have aB3 : Blk aw3 gs _ #[.int .i64 z0, .int .i64 z1, .int .i64 z2, .int .i64 z3, .int .i64 z4, .int .i64 z5, .int .i64 z6] := Blk.touch aB2 at3 (On.blk_ne ao2 aB2 (by decide)); have ak30 := aB3.cell 0; have ak31 := aB3.cell 1; have ak32 := aB3.cell 2; have ak33 := aB3.cell 3)
          | (go_at_call_of 82 (Value.int IntKind.i64 z3); refine (rput_any _ _ (xs ++ be8 z0 ++ be8 z1 ++ be8 z2) z3 ao3 (by have := HLEN.out; (try simp only [List.length_append, be8_len]); omega)).mono ?_; rintro e aw4 ⟨av4, rfl, ao4, at4, ag4⟩; have aB4 : Blk aw4 gs _ #[.int .i64 z0, .int .i64 z1, .int .i64 z2, .int .i64 z3, .int .i64 z4, .int .i64 z5, .int .i64 z6] := Blk.touch aB3 at4 (On.blk_ne ao3 aB3 (by decide)); have ak40 := aB4.cell 0; have ak41 := aB4.cell 1; have ak42 := aB4.cell 2; have ak43 := aB4.cell 3))
      have aR := (((((hR3.drewN 1).put hz ao1 at1 ag1).put hz ao2 at2 ag2).put hz ao3 at3 ag3).put hz ao4 at4 ag4)
      clear am0 am1 am2 am3 ak10 ak11 ak12 ak13 ak20 ak21 ak22 ak23 ak30 ak31 ak32 ak33 ak40 ak41 ak42 ak43 ao1 at1 ag1 ao2 at2 ag2 ao3 at3 ag3 ao4 at4 ag4 aB1 aB2 aB3
      go_wp2_with fail
      have bq0 := Lib.hid aR.out
      have bm0 := aB4.cell 4; have bm1 := aB4.cell 5; have bm2 := aB4.cell 6
      have bB0 := Lib.hid aB4
      go_region_held3 (fun w' => w'.cell? ⟨gs, 4, none⟩ = some (.int .i64 z4) ∧ w'.cell? ⟨gs, 5, none⟩ = some (.int .i64 z5) ∧ w'.cell? ⟨gs, 6, none⟩ = some (.int .i64 z6)) (first | go_keep | exact ⟨bk10, bk11, bk12⟩ | exact ⟨bk20, bk21, bk22⟩ | exact ⟨bk30, bk31, bk32⟩)
        (first
          | (go_at_call_of 82 (Value.int IntKind.i64 z4); refine (rput_any _ _ (xs ++ be8 z0 ++ be8 z1 ++ be8 z2 ++ be8 z3) z4 (by exact On.drew bq0.out) (by have := HLEN.out; (try simp only [List.length_append, be8_len]); omega)).mono ?_; rintro e bw1 ⟨bv1, rfl, bo1, bt1, bg1⟩; have bB1 : Blk bw1 gs _ #[.int .i64 z0, .int .i64 z1, .int .i64 z2, .int .i64 z3, .int .i64 z4, .int .i64 z5, .int .i64 z6] := Blk.touch (show Blk _ gs _ #[.int .i64 z0, .int .i64 z1, .int .i64 z2, .int .i64 z3, .int .i64 z4, .int .i64 z5, .int .i64 z6] from by exact Blk.drew bB0.out) bt1 (On.blk_ne bq0.out bB0.out (by decide)); have bk10 := bB1.cell 4; have bk11 := bB1.cell 5; have bk12 := bB1.cell 6)
          | (go_at_call_of 82 (Value.int IntKind.i64 z5); refine (rput_any _ _ (xs ++ be8 z0 ++ be8 z1 ++ be8 z2 ++ be8 z3 ++ be8 z4) z5 bo1 (by have := HLEN.out; (try simp only [List.length_append, be8_len]); omega)).mono ?_; rintro e bw2 ⟨bv2, rfl, bo2, bt2, bg2⟩; have bB2 : Blk bw2 gs _ #[.int .i64 z0, .int .i64 z1, .int .i64 z2, .int .i64 z3, .int .i64 z4, .int .i64 z5, .int .i64 z6] := Blk.touch bB1 bt2 (On.blk_ne bo1 bB1 (by decide)); have bk20 := bB2.cell 4; have bk21 := bB2.cell 5; have bk22 := bB2.cell 6)
          | (go_at_call_of 82 (Value.int IntKind.i64 z6); refine (rput_any _ _ (xs ++ be8 z0 ++ be8 z1 ++ be8 z2 ++ be8 z3 ++ be8 z4 ++ be8 z5) z6 bo2 (by have := HLEN.out; (try simp only [List.length_append, be8_len]); omega)).mono ?_; rintro e bw3 ⟨bv3, rfl, bo3, bt3, bg3⟩; have bB3 : Blk bw3 gs _ #[.int .i64 z0, .int .i64 z1, .int .i64 z2, .int .i64 z3, .int .i64 z4, .int .i64 z5, .int .i64 z6] := Blk.touch bB2 bt3 (On.blk_ne bo2 bB2 (by decide)); have bk30 := bB3.cell 4; have bk31 := bB3.cell 5; have bk32 := bB3.cell 6))
      have bR := ((((aR.drewN 1).put hz bo1 bt1 bg1).put hz bo2 bt2 bg2).put hz bo3 bt3 bg3)
      clear bm0 bm1 bm2 bk10 bk11 bk12 bk20 bk21 bk22 bk30 bk31 bk32 bo1 bt1 bg1 bo2 bt2 bg2 bo3 bt3 bg3 bB1 bB2
      go_wp2_with fail
      go_roundw
      case rel => exact ⟨i + 1, by omega, by go_num, by rw [HE.out]; exact bR⟩
      case measure => simp [intOf]; omega
    · obtain rfl : i = 2 := by omega
      rw [show ((2 : Nat) : Int) = 2 from rfl]
      have hR0 : Run (w.heap.size + 1) W1 wo _ (shotsB f 0) := hR
      clear hlt hi hR c1 hsw
      go_wp2_with fail
      go_loopw [3, 6] (fun ov iv wr => ∃ i : Nat, i ≤ 8 ∧ iv = .int .i64 i ∧ Run (w.heap.size + 1) W1 wr ov (shotsB f i)) (fun _ iv _ => 8 - (intOf iv).toNat)
      case atStart => exact ⟨0, by omega, rfl, hR0⟩
      case round =>
        clear hR0
        obtain ⟨i, hi, rfl, hR⟩ := hrel
        obtain ⟨wp, rfl⟩ : ∃ wp : World, wp = wr := ⟨_, rfl⟩
        by_cases hlt : i < 8
        · have i1 : (0 : Int) ≤ (i : Int) := by omega
          have i2 : (i : Int) < 8 := by omega
          have hlen := shotsB_len f i
          obtain ⟨xs, hxs⟩ : ∃ xs, shotsB f i = xs := ⟨_, rfl⟩
          have HE := Lib.hid (show shotsB f (i + 1) = shotsB f i ++ [onI (f (16 + i * 6))] ++ be8 (f (16 + i * 6 + 1)) ++ be8 (f (16 + i * 6 + 2)) ++ be8 (f (16 + i * 6 + 3)) ++ be8 (f (16 + i * 6 + 4)) ++ be8 (f (16 + i * 6 + 5)) by
            rw [shotsB]; simp [runB, List.append_assoc])
          rw [hxs] at HE hR hlen
          have HLEN := Lib.hid (show xs.length ≤ 1000 by omega)
          obtain ⟨e0, e1, e2, e3, e4, e5, -⟩ := (hR.sb HS.out (by omega)).shotAt hlt
          simp only [sho] at e0 e1 e2 e3 e4 e5
          generalize f (16 + i * 6 + 1) = y1 at *
          generalize f (16 + i * 6 + 2) = y2 at *
          generalize f (16 + i * 6 + 3) = y3 at *
          generalize f (16 + i * 6 + 4) = y4 at *
          generalize f (16 + i * 6 + 5) = y5 at *
          obtain ⟨i0, hi0, hz0, hz1, hz2⟩ := info_parts info8
          clear hlen hxs
          cases hon : onB (f (16 + i * 6))
          · rw [hon] at e0
            have HO := Lib.hid (show shotsB f (i + 1) = xs ++ [0] ++ be8 y1 ++ be8 y2 ++ be8 y3 ++ be8 y4 ++ be8 y5 by rw [HE.out]; simp [onI, hon])
            have hsh := (Blk.new wp 49 #[.bool false, .int .i64 y1, .int .i64 y2, .int .i64 y3, .int .i64 y4, .int .i64 y5]).alloc (.cells #[.int .u8 0] 5)
            have hR3 := (hR.alloc hz (.cells #[.bool false, .int .i64 y1, .int .i64 y2, .int .i64 y3, .int .i64 y4, .int .i64 y5] 49)).alloc hz (.cells #[.int .u8 0] 5)
            have SRC : Src ((wp.alloc (.cells #[.bool false, .int .i64 y1, .int .i64 y2, .int .i64 y3, .int .i64 y4, .int .i64 y5] 49)).alloc (.cells #[.int .u8 0] 5)) (some ⟨wp.heap.size + 1, 0, none⟩) 1 (ub [0]) := by
              have := src_new (wp.alloc (.cells #[.bool false, .int .i64 y1, .int .i64 y2, .int .i64 y3, .int .i64 y4, .int .i64 y5] 49)) 5 1 (ub [0])
              simpa [ub] using this
            have X := Lib.hid hR3.out
            clear hR HE hon
            go_upto_region 16 with (at_builtin; refine wpList_append_on _ (by rfl) _ _ 81 (by rfl) 5 i0 _ 1 1 Try.underlying81 hi0 hz0 hz1 hz2 (by rfl) (by omega) _ _ _ (by rfl) X.out (some ⟨wp.heap.size + 1, 0, none⟩) 1 1 (ub [0]) (by rfl) (by rfl) SRC (ub_one _) (by have := HLEN.out; simp only [maxLen]; omega) (by have := HLEN.out; omega) ?_; intro v5 w5 hon hg hv5)
            have hR4 := hR3.app hz (ys := [0]) hon hg hv5
            have hsh4 := hsh.grown hg (fun e => On.blk_ne X.out hsh (by decide) e.symm)
            clear hR3 SRC X hon hg hv5 hsh e0 e1 e2 e3 e4 e5
            generalize wp.heap.size = gs at *
            have c0q0 := Lib.hid hR4.out
            have c0m0 := hsh4.cell 1; have c0m1 := hsh4.cell 2; have c0m2 := hsh4.cell 3
            have c0B0 := Lib.hid hsh4
            go_region_held3 (fun w' => w'.cell? ⟨gs, 1, none⟩ = some (.int .i64 y1) ∧ w'.cell? ⟨gs, 2, none⟩ = some (.int .i64 y2) ∧ w'.cell? ⟨gs, 3, none⟩ = some (.int .i64 y3)) (first | go_keep | exact ⟨c0k10, c0k11, c0k12⟩ | exact ⟨c0k20, c0k21, c0k22⟩ | exact ⟨c0k30, c0k31, c0k32⟩)
              (first
                | (go_at_call_of 82 (Value.int IntKind.i64 y1); refine (rput_any _ _ (xs ++ [0]) y1 (by exact On.drew c0q0.out) (by have := HLEN.out; (try simp only [List.length_append, be8_len, List.length_cons, List.length_nil]); omega)).mono ?_; rintro e c0w1 ⟨c0v1, rfl, c0o1, c0t1, c0g1⟩; have c0B1 : Blk c0w1 gs _ #[.bool false, .int .i64 y1, .int .i64 y2, .int .i64 y3, .int .i64 y4, .int .i64 y5] := Blk.touch (show Blk _ gs _ #[.bool false, .int .i64 y1, .int .i64 y2, .int .i64 y3, .int .i64 y4, .int .i64 y5] from by exact Blk.drew c0B0.out) c0t1 (On.blk_ne c0q0.out c0B0.out (by decide)); have c0k10 := c0B1.cell 1; have c0k11 := c0B1.cell 2; have c0k12 := c0B1.cell 3)
                | (go_at_call_of 82 (Value.int IntKind.i64 y2); refine (rput_any _ _ (xs ++ [0] ++ be8 y1) y2 c0o1 (by have := HLEN.out; (try simp only [List.length_append, be8_len, List.length_cons, List.length_nil]); omega)).mono ?_; rintro e c0w2 ⟨c0v2, rfl, c0o2, c0t2, c0g2⟩; have c0B2 : Blk c0w2 gs _ #[.bool false, .int .i64 y1, .int .i64 y2, .int .i64 y3, .int .i64 y4, .int .i64 y5] := Blk.touch c0B1 c0t2 (On.blk_ne c0o1 c0B1 (by decide)); have c0k20 := c0B2.cell 1; have c0k21 := c0B2.cell 2; have c0k22 := c0B2.cell 3)
                | (go_at_call_of 82 (Value.int IntKind.i64 y3); refine (rput_any _ _ (xs ++ [0] ++ be8 y1 ++ be8 y2) y3 c0o2 (by have := HLEN.out; (try simp only [List.length_append, be8_len, List.length_cons, List.length_nil]); omega)).mono ?_; rintro e c0w3 ⟨c0v3, rfl, c0o3, c0t3, c0g3⟩; have c0B3 : Blk c0w3 gs _ #[.bool false, .int .i64 y1, .int .i64 y2, .int .i64 y3, .int .i64 y4, .int .i64 y5] := Blk.touch c0B2 c0t3 (On.blk_ne c0o2 c0B2 (by decide)); have c0k30 := c0B3.cell 1; have c0k31 := c0B3.cell 2; have c0k32 := c0B3.cell 3))
            have c0R := ((((hR4.drewN 1).put hz c0o1 c0t1 c0g1).put hz c0o2 c0t2 c0g2).put hz c0o3 c0t3 c0g3)
            clear c0m0 c0m1 c0m2 c0k10 c0k11 c0k12 c0k20 c0k21 c0k22 c0k30 c0k31 c0k32 c0o1 c0t1 c0g1 c0o2 c0t2 c0g2 c0o3 c0t3 c0g3 c0B1 c0B2
            go_wp2_with fail
            have d0q0 := Lib.hid c0R.out
            have d0m0 := c0B3.cell 4; have d0m1 := c0B3.cell 5
            have d0B0 := Lib.hid c0B3
            go_region_held3 (fun w' => w'.cell? ⟨gs, 4, none⟩ = some (.int .i64 y4) ∧ w'.cell? ⟨gs, 5, none⟩ = some (.int .i64 y5)) (first | go_keep | exact ⟨d0k10, d0k11⟩ | exact ⟨d0k20, d0k21⟩)
              (first
                | (go_at_call_of 82 (Value.int IntKind.i64 y4); refine (rput_any _ _ (xs ++ [0] ++ be8 y1 ++ be8 y2 ++ be8 y3) y4 (by exact On.drew d0q0.out) (by have := HLEN.out; (try simp only [List.length_append, be8_len, List.length_cons, List.length_nil]); omega)).mono ?_; rintro e d0w1 ⟨d0v1, rfl, d0o1, d0t1, d0g1⟩; have d0B1 : Blk d0w1 gs _ #[.bool false, .int .i64 y1, .int .i64 y2, .int .i64 y3, .int .i64 y4, .int .i64 y5] := Blk.touch (show Blk _ gs _ #[.bool false, .int .i64 y1, .int .i64 y2, .int .i64 y3, .int .i64 y4, .int .i64 y5] from by exact Blk.drew d0B0.out) d0t1 (On.blk_ne d0q0.out d0B0.out (by decide)); have d0k10 := d0B1.cell 4; have d0k11 := d0B1.cell 5)
                | (go_at_call_of 82 (Value.int IntKind.i64 y5); refine (rput_any _ _ (xs ++ [0] ++ be8 y1 ++ be8 y2 ++ be8 y3 ++ be8 y4) y5 d0o1 (by have := HLEN.out; (try simp only [List.length_append, be8_len, List.length_cons, List.length_nil]); omega)).mono ?_; rintro e d0w2 ⟨d0v2, rfl, d0o2, d0t2, d0g2⟩; have d0B2 : Blk d0w2 gs _ #[.bool false, .int .i64 y1, .int .i64 y2, .int .i64 y3, .int .i64 y4, .int .i64 y5] := Blk.touch d0B1 d0t2 (On.blk_ne d0o1 d0B1 (by decide)); have d0k20 := d0B2.cell 4; have d0k21 := d0B2.cell 5))
            have d0R := (((c0R.drewN 1).put hz d0o1 d0t1 d0g1).put hz d0o2 d0t2 d0g2)
            clear d0m0 d0m1 d0k10 d0k11 d0k20 d0k21 d0o1 d0t1 d0g1 d0o2 d0t2 d0g2 d0B1
            have HLT := hlt
            go_wp2_with fail
            go_roundw
            case rel => exact ⟨i + 1, by omega, by go_num, by rw [HO.out]; exact d0R⟩
            case measure => simp [intOf]; omega
          · rw [hon] at e0
            have HO := Lib.hid (show shotsB f (i + 1) = xs ++ [1] ++ be8 y1 ++ be8 y2 ++ be8 y3 ++ be8 y4 ++ be8 y5 by rw [HE.out]; simp [onI, hon])
            have hsh := (Blk.new wp 49 #[.bool true, .int .i64 y1, .int .i64 y2, .int .i64 y3, .int .i64 y4, .int .i64 y5]).alloc (.cells #[.int .u8 1] 5)
            have hR3 := (hR.alloc hz (.cells #[.bool true, .int .i64 y1, .int .i64 y2, .int .i64 y3, .int .i64 y4, .int .i64 y5] 49)).alloc hz (.cells #[.int .u8 1] 5)
            have SRC : Src ((wp.alloc (.cells #[.bool true, .int .i64 y1, .int .i64 y2, .int .i64 y3, .int .i64 y4, .int .i64 y5] 49)).alloc (.cells #[.int .u8 1] 5)) (some ⟨wp.heap.size + 1, 0, none⟩) 1 (ub [1]) := by
              have := src_new (wp.alloc (.cells #[.bool true, .int .i64 y1, .int .i64 y2, .int .i64 y3, .int .i64 y4, .int .i64 y5] 49)) 5 1 (ub [1])
              simpa [ub] using this
            have X := Lib.hid hR3.out
            clear hR HE hon
            go_upto_region 16 with (at_builtin; refine wpList_append_on _ (by rfl) _ _ 81 (by rfl) 5 i0 _ 1 1 Try.underlying81 hi0 hz0 hz1 hz2 (by rfl) (by omega) _ _ _ (by rfl) X.out (some ⟨wp.heap.size + 1, 0, none⟩) 1 1 (ub [1]) (by rfl) (by rfl) SRC (ub_one _) (by have := HLEN.out; simp only [maxLen]; omega) (by have := HLEN.out; omega) ?_; intro v5 w5 hon hg hv5)
            have hR4 := hR3.app hz (ys := [1]) hon hg hv5
            have hsh4 := hsh.grown hg (fun e => On.blk_ne X.out hsh (by decide) e.symm)
            clear hR3 SRC X hon hg hv5 hsh e0 e1 e2 e3 e4 e5
            generalize wp.heap.size = gs at *
            have c1q0 := Lib.hid hR4.out
            have c1m0 := hsh4.cell 1; have c1m1 := hsh4.cell 2; have c1m2 := hsh4.cell 3
            have c1B0 := Lib.hid hsh4
            go_region_held3 (fun w' => w'.cell? ⟨gs, 1, none⟩ = some (.int .i64 y1) ∧ w'.cell? ⟨gs, 2, none⟩ = some (.int .i64 y2) ∧ w'.cell? ⟨gs, 3, none⟩ = some (.int .i64 y3)) (first | go_keep | exact ⟨c1k10, c1k11, c1k12⟩ | exact ⟨c1k20, c1k21, c1k22⟩ | exact ⟨c1k30, c1k31, c1k32⟩)
              (first
                | (go_at_call_of 82 (Value.int IntKind.i64 y1); refine (rput_any _ _ (xs ++ [1]) y1 (by exact On.drew c1q0.out) (by have := HLEN.out; (try simp only [List.length_append, be8_len, List.length_cons, List.length_nil]); omega)).mono ?_; rintro e c1w1 ⟨c1v1, rfl, c1o1, c1t1, c1g1⟩; have c1B1 : Blk c1w1 gs _ #[.bool true, .int .i64 y1, .int .i64 y2, .int .i64 y3, .int .i64 y4, .int .i64 y5] := Blk.touch (show Blk _ gs _ #[.bool true, .int .i64 y1, .int .i64 y2, .int .i64 y3, .int .i64 y4, .int .i64 y5] from by exact Blk.drew c1B0.out) c1t1 (On.blk_ne c1q0.out c1B0.out (by decide)); have c1k10 := c1B1.cell 1; have c1k11 := c1B1.cell 2; have c1k12 := c1B1.cell 3)
                | (go_at_call_of 82 (Value.int IntKind.i64 y2); refine (rput_any _ _ (xs ++ [1] ++ be8 y1) y2 c1o1 (by have := HLEN.out; (try simp only [List.length_append, be8_len, List.length_cons, List.length_nil]); omega)).mono ?_; rintro e c1w2 ⟨c1v2, rfl, c1o2, c1t2, c1g2⟩; have c1B2 : Blk c1w2 gs _ #[.bool true, .int .i64 y1, .int .i64 y2, .int .i64 y3, .int .i64 y4, .int .i64 y5] := Blk.touch c1B1 c1t2 (On.blk_ne c1o1 c1B1 (by decide)); have c1k20 := c1B2.cell 1; have c1k21 := c1B2.cell 2; have c1k22 := c1B2.cell 3)
                | (go_at_call_of 82 (Value.int IntKind.i64 y3); refine (rput_any _ _ (xs ++ [1] ++ be8 y1 ++ be8 y2) y3 c1o2 (by have := HLEN.out; (try simp only [List.length_append, be8_len, List.length_cons, List.length_nil]); omega)).mono ?_; rintro e c1w3 ⟨c1v3, rfl, c1o3, c1t3, c1g3⟩; have c1B3 : Blk c1w3 gs _ #[.bool true, .int .i64 y1, .int .i64 y2, .int .i64 y3, .int .i64 y4, .int .i64 y5] := Blk.touch c1B2 c1t3 (On.blk_ne c1o2 c1B2 (by decide)); have c1k30 := c1B3.cell 1; have c1k31 := c1B3.cell 2; have c1k32 := c1B3.cell 3))
            have c1R := ((((hR4.drewN 1).put hz c1o1 c1t1 c1g1).put hz c1o2 c1t2 c1g2).put hz c1o3 c1t3 c1g3)
            clear c1m0 c1m1 c1m2 c1k10 c1k11 c1k12 c1k20 c1k21 c1k22 c1k30 c1k31 c1k32 c1o1 c1t1 c1g1 c1o2 c1t2 c1g2 c1o3 c1t3 c1g3 c1B1 c1B2
            go_wp2_with fail
            have d1q0 := Lib.hid c1R.out
            have d1m0 := c1B3.cell 4; have d1m1 := c1B3.cell 5
            have d1B0 := Lib.hid c1B3
            go_region_held3 (fun w' => w'.cell? ⟨gs, 4, none⟩ = some (.int .i64 y4) ∧ w'.cell? ⟨gs, 5, none⟩ = some (.int .i64 y5)) (first | go_keep | exact ⟨d1k10, d1k11⟩ | exact ⟨d1k20, d1k21⟩)
              (first
                | (go_at_call_of 82 (Value.int IntKind.i64 y4); refine (rput_any _ _ (xs ++ [1] ++ be8 y1 ++ be8 y2 ++ be8 y3) y4 (by exact On.drew d1q0.out) (by have := HLEN.out; (try simp only [List.length_append, be8_len, List.length_cons, List.length_nil]); omega)).mono ?_; rintro e d1w1 ⟨d1v1, rfl, d1o1, d1t1, d1g1⟩; have d1B1 : Blk d1w1 gs _ #[.bool true, .int .i64 y1, .int .i64 y2, .int .i64 y3, .int .i64 y4, .int .i64 y5] := Blk.touch (show Blk _ gs _ #[.bool true, .int .i64 y1, .int .i64 y2, .int .i64 y3, .int .i64 y4, .int .i64 y5] from by exact Blk.drew d1B0.out) d1t1 (On.blk_ne d1q0.out d1B0.out (by decide)); have d1k10 := d1B1.cell 4; have d1k11 := d1B1.cell 5)
                | (go_at_call_of 82 (Value.int IntKind.i64 y5); refine (rput_any _ _ (xs ++ [1] ++ be8 y1 ++ be8 y2 ++ be8 y3 ++ be8 y4) y5 d1o1 (by have := HLEN.out; (try simp only [List.length_append, be8_len, List.length_cons, List.length_nil]); omega)).mono ?_; rintro e d1w2 ⟨d1v2, rfl, d1o2, d1t2, d1g2⟩; have d1B2 : Blk d1w2 gs _ #[.bool true, .int .i64 y1, .int .i64 y2, .int .i64 y3, .int .i64 y4, .int .i64 y5] := Blk.touch d1B1 d1t2 (On.blk_ne d1o1 d1B1 (by decide)); have d1k20 := d1B2.cell 4; have d1k21 := d1B2.cell 5))
            have d1R := (((c1R.drewN 1).put hz d1o1 d1t1 d1g1).put hz d1o2 d1t2 d1g2)
            clear d1m0 d1m1 d1k10 d1k11 d1k20 d1k21 d1o1 d1t1 d1g1 d1o2 d1t2 d1g2 d1B1
            have HLT := hlt
            go_wp2_with fail
            go_roundw
            case rel => exact ⟨i + 1, by omega, by go_num, by rw [HO.out]; exact d1R⟩
            case measure => simp [intOf]; omega
        · obtain rfl : i = 8 := by omega
          have hSp := hR.sb HS.out (by omega)
          have hlen := shotsB_len f 8
          have m0 := hSp.score (i := 0) (by omega)
          have m1 := hSp.score (i := 1) (by omega)
          rw [Nat.add_zero] at m0
          rw [show 64 + 1 = 65 from rfl] at m1
          have hbp := hSp.lt
          have hlow := hR.low
          have HR := Lib.hid hR
          have p1 := Lib.hid (fun W v xs (h : Out W v xs) (hl : xs.length ≤ 900000) => rput_any W v xs (f 64) h hl)
          have p2 := Lib.hid (fun W v xs (h : Out W v xs) (hl : xs.length ≤ 900000) => rput_any W v xs (f 65) h hl)
          have hl1 : (shotsB f 8).length ≤ 800000 := by omega
          have HEND := Lib.hid (show stB f = shotsB f 8 ++ be8 (f 64) ++ be8 (f 65) from rfl)
          generalize shotsB f 8 = xs at *
          generalize f 64 = z64 at *
          generalize f 65 = z65 at *
          have oR := Lib.hid hR.out
          clear hR hSp hlen hlt hi
          go_upto_region 18 with fail
          go_region_held3 (fun w' => w'.cell? ⟨w.heap.size, 64, none⟩ = some (.int .i64 z64) ∧ w'.cell? ⟨w.heap.size, 65, none⟩ = some (.int .i64 z65)) (first | go_keep | exact ⟨k0, k1⟩ | exact ⟨l0, l1⟩)
            (first
              | (go_at_call_of 82 (Value.int IntKind.i64 z64); refine (p1.out _ _ _ (by exact On.drew oR.out) (by omega)).mono ?_; rintro e w5 ⟨v5, rfl, o5, t5, g5⟩; have k0 : w5.cell? ⟨w.heap.size, 64, none⟩ = some (.int .i64 z64) := (t5.cell (p := ⟨w.heap.size, 64, none⟩) hbp (fun hk => by have := hlow _ hk; simp at this; omega)).trans m0; have k1 : w5.cell? ⟨w.heap.size, 65, none⟩ = some (.int .i64 z65) := (t5.cell (p := ⟨w.heap.size, 65, none⟩) hbp (fun hk => by have := hlow _ hk; simp at this; omega)).trans m1)
              | (go_at_call_of 82 (Value.int IntKind.i64 z65); refine (p2.out _ v5 _ o5 (by rw [List.length_append, be8_len]; omega)).mono ?_; rintro e w6 ⟨v6, rfl, o6, t6, g6⟩; have l0 : w6.cell? ⟨w.heap.size, 64, none⟩ = some (.int .i64 z64) := (t6.cell (p := ⟨w.heap.size, 64, none⟩) (Nat.lt_of_lt_of_le hbp t5.size) (fun hk => (g5 _ hk).elim (fun e => by have := hlow _ e; simp at this; omega) (fun e => by simp at e; omega))).trans k0; have l1 : w6.cell? ⟨w.heap.size, 65, none⟩ = some (.int .i64 z65) := (t6.cell (p := ⟨w.heap.size, 65, none⟩) (Nat.lt_of_lt_of_le hbp t5.size) (fun hk => (g5 _ hk).elim (fun e => by have := hlow _ e; simp at this; omega) (fun e => by simp at e; omega))).trans k1))
          have R5 := ((HR.out.drewN 1).put hz o5 t5 g5).put hz o6 t6 g6
          rw [← HEND.out] at R5
          clear k0 k1 l0 l1 m0 m1 o5 t5 g5 o6 t6 g6 p1 p2
          go_wp2_with fail
          go_ret
          exact ⟨_, rfl, R5.out, HB.out.trans (R5.below.mono (by omega)), fun g hg => by have := R5.low g hg; omega⟩
end Go.Proofs.Ytckkpgopddnkiaa.Gm
namespace Go.Proofs.Ytckkpgopddnkiaa.Gm
open Go.RowKit Go.Sort Go.Proofs.Ytckkpgopddnkiaa.Num Go.Proofs.Ytckkpgopddnkiaa.Byt
set_option linter.all false

def cellsAt (w : World) (g : Nat) : Array Value := match w.heap[g]? with
  | some (.cells cs _ (0, 0)) => cs
  | _ => #[]
theorem cellsAt_blk {w : World} {g : Nat} {t : TypeId} {cs : Array Value} (h : Blk w g t cs) : cellsAt w g = cs := by
  unfold Blk at h
  unfold cellsAt
  rw [h]
  rfl
theorem cellsAt_drew (w : World) (g : Nat) : cellsAt w.drew g = cellsAt w g := rfl
theorem cellsAt_inv {w : World} {g : Nat} (h : 0 < (cellsAt w g).size) : ∃ t, w.heap[g]? = some (.cells (cellsAt w g) t (0, 0)) := by
  revert h
  unfold cellsAt
  split
  · rename_i hg
    intro _
    exact ⟨_, hg⟩
  · intro h; simp at h
theorem run33 (w : World) (g : Nat) (h : (cellsAt w g).size = 66) : (Instr.loadAt 53 (.pointer (some ⟨g, 0, none⟩))).run Try.prog w = .ok (.agg (cellsAt w g)) w := by
  obtain ⟨t, hg⟩ := cellsAt_inv (w := w) (g := g) (by omega)
  simp only [Instr.loadAt, Instr.sureAddr, Sem.run_bind, Sem.run_pure, Result.andThen_ok, run_loadVar_row w g t 53 (cellsAt w g) (0, 0) _ hg Try.underlying53 rfl (by rw [h]; exact infoSt)]

/-- A state's load, as the walk meets it: by what the block holds. -/
def loadR (P : Program) (t : TypeId) (v : Value) (w : World) : Result Next := (Sem.run P (Instr.loadAt t v) w).andThen fun u w' => .ok (.value u) w'
theorem exec33 (ev : Operand → Value) (dst : Option Tmp) (x : Operand) (ty : TypeId) (pos : String) (after : Array Edge) (guard : Option (Nat × Bool)) (w : World) :
    (execOp ev { dst := dst, op := Op.load 53 x, type := ty, pos := pos, after := after, guard := guard }).run Try.prog w = loadR Try.prog 53 (ev x) w := by
  unfold execOp loadR
  simp only [Sem.run_bind, Sem.run_pure]
theorem loadR_at (w : World) (g : Nat) (h : (cellsAt w g).size = 66) : loadR Try.prog 53 (.pointer (some ⟨g, 0, none⟩)) w = .ok (.value (.agg (cellsAt w g))) w := by
  unfold loadR
  rw [run33 w g h]
  rfl

set_option maxRecDepth 100000 in
set_option maxHeartbeats 4000000 in
theorem rsum_any (w : World) (f : F) (hw : Wf f) :
    Calls Try.prog 44 #[stV f] w fun e w' => e = .returned (.int .u32 (sumL (stB f))) ∧ Below w.heap.size w w' := by
  obtain ⟨C, LC⟩ := let_of f
  obtain ⟨W1, hW1⟩ : ∃ W1, W1 = w.alloc (.cells C 53) := ⟨_, rfl⟩
  have hS : Blk W1 w.heap.size 53 C := by rw [hW1]; exact Blk.new _ _ _
  have hB : Below w.heap.size w W1 := by rw [hW1]; exact (Below.refl _ w).alloc (Nat.le_refl _) _
  have hif := LC.info
  have p := Lib.hid (rstB_any W1 f hw)
  unfold stV at p ⊢
  rw [← LC.eq] at p ⊢
  have hin := Lib.hid (stB_in f)
  have hlen := stB_len f
  obtain ⟨L, hL⟩ : ∃ L, stB f = L := ⟨_, rfl⟩
  rw [hL] at p hin hlen ⊢
  have HLEN := Lib.hid hlen
  have hl1 : L.length ≤ 1000 := by omega
  clear hw LC hL hlen
  go_enter Try.func44, Try.ntmps44
  go_upto_region 2 with fail
  rw [← hW1]
  clear hW1
  go_wp2_with (refine wpList_load_blk (by rfl) 53 _ (by rfl) w.heap.size (by rfl) _ C _ hS Try.underlying53 (by rfl) hif ?_)
  refine p.out.mono ?_
  rintro e w2 ⟨v, rfl, R⟩
  have hBB := hB.trans (R.below.mono hB.size)
  rcases On.form R.out with ⟨hv, hn, _⟩ | ⟨g, cap, rfl, hnc, hcm, how, hgl, hcell, hfr⟩
  · exact absurd hn (by have := HLEN.out; omega)
  · have HC := Lib.hid hcell
    clear p R hcell hfr how hS hB
    go_wp2_with fail
    go_loopw [3, 5] (fun hv iv wr => ∃ i : Nat, i ≤ L.length ∧ iv = .int .i64 i ∧ hv = .int .u32 ((L.take i).foldl mixS 2166136261) ∧ wr = w2) (fun _ iv _ => L.length - (intOf iv).toNat)
    case atStart => exact ⟨0, by omega, rfl, rfl, by first | trivial | rfl⟩
    case round =>
      obtain ⟨i, hi, rfl, rfl, rfl⟩ := hrel
      by_cases hlt : i < L.length
      · have i0 : (i : Int) < (L.length : Int) := by omega
        have i1 : (0 : Int) ≤ (i : Int) := by omega
        have HS := Lib.hid (sum_take hlt)
        have hnth : L[i]? = some (nth L i) := by simp [nth, List.getD_eq_getElem?_getD, List.getElem?_eq_getElem hlt]
        have hb := hin.out (nth L i) (List.mem_of_getElem? hnth)
        have ck := HC.out i (.int .u8 (nth L i)) (by unfold ub; rw [List.getElem?_map, hnth]; rfl)
        generalize (L.take i).foldl mixS 2166136261 = h at *
        generalize nth L i = b at *
        have hwb : IntKind.u32.wrap b = b := IntWalk.u32_in _ (by omega)
        clear hnth
        go_wp2_with fail
        go_roundw
        case rel => exact ⟨i + 1, by omega, by go_num, by rw [HS.out]; rfl, by first | trivial | rfl⟩
        case measure => simp [intOf]; omega
      · obtain rfl : i = L.length := by omega
        have HP := Lib.hid (show L.take L.length = L from List.take_length)
        go_wp2_with fail
        go_ret
        exact ⟨ret_int (by rw [HP.out]; rfl), hBB⟩
end Go.Proofs.Ytckkpgopddnkiaa.Gm
namespace Go.Proofs.Ytckkpgopddnkiaa.Gm
open Go.RowKit Go.Proofs.Ytckkpgopddnkiaa.Num
set_option linter.all false

set_option maxRecDepth 100000 in
set_option maxHeartbeats 4000000 in
theorem rborn_any (w : World) (i : Nat) (hi : i < 2) :
    Calls Try.prog 74 #[.int .i64 i] w fun e w' => e = .returned (bodV (bornB i)) ∧ Below w.heap.size w w' := by
  have e : i = 0 ∨ i = 1 := by omega
  rcases e with rfl | rfl
  all_goals
    clear hi
    go_enter Try.func74, Try.ntmps74
    go_wp2_with fail
    refine bodyPost_ret (v := bodV (bornB _)) (by simp [results, Try.results74, go_sem, bodV, bodL, bornB]) rfl ⟨rfl, ?_⟩
    repeat (refine Below.setCell ?_ (by simp) _)
    exact (Below.refl _ _).alloc (Nat.le_refl _) _
end Go.Proofs.Ytckkpgopddnkiaa.Gm
