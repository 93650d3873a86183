/-
  backstaylaw24.SavedPlays: it says yes to whatever room and calls. Condition: the calls lie in memory.
-/
import Derived.Test.YtblnfkhaicjeaaaSavY
import Derived.Test.YtblnfkhaicjeaaaSavV
namespace Go.Proofs.Ytblnfkhaicjeaaa.Sav
open Go.RowKit Go.Sort Go.Proofs.Ytblnfkhaicjeaaa.Gm Go.Proofs.Ytblnfkhaicjeaaa.RingE
set_option linter.all false

set_option maxRecDepth 100000 in
set_option maxHeartbeats 4000000 in
theorem plays_law (w : World) (room : Int) (oa : Option Addr) (ocap : Nat) (os : List OpT) (h : OpRow w oa os) (hc : os.length ≤ ocap) (hm : ocap ≤ maxLen) :
    Calls Try.prog 9 #[.int .i64 room, .slice oa os.length ocap] w fun e w' => e = .returned (.bool true) ∧ Below w.heap.size w w' := by
  have pA := Lib.hid (awake_any w)
  go_enter Try.func9, Try.ntmps9
  go_wp2_with fail
  refine pA.out.mono ?_
  rintro e w1 ⟨rfl, hb1⟩
  have pP := Lib.hid (played_any w1 room oa os ocap (h.below hb1) hc hm)
  have HB1 := Lib.hid hb1
  clear pA hb1
  go_wp2_with fail
  refine pP.out.mono ?_
  rintro e w2 (⟨hr, rfl, hb2⟩ | ⟨hr, g, r, sv, first, fs, a, c, rfl, hS, hR, hfc, hcm, hI, hb2⟩)
  · unfold refV
    have HB2 := Lib.hid (HB1.out.trans (hb2.mono HB1.out.size))
    clear hb2 pP
    go_wp2_with fail
    go_ret
    exact ⟨rfl, HB2.out.trans ((Below.refl _ w2).alloc HB2.out.size _)⟩
  · unfold refV
    have HB2 := Lib.hid (HB1.out.trans (hb2.mono HB1.out.size))
    clear hb2 pP hS hR hI
    go_wp2_with fail
    go_ret
    exact ⟨rfl, HB2.out.trans ((Below.refl _ w2).alloc HB2.out.size _)⟩

set_option maxRecDepth 100000 in
set_option maxHeartbeats 4000000 in
theorem differs_law (w : World) (room : Int) (oa ob : Option Addr) (ca cb : Nat) (os os2 : List OpT) (h : OpRow w oa os) (hc : os.length ≤ ca) (hm : ca ≤ maxLen) (h' : OpRow w ob os2) (hc' : os2.length ≤ cb) (hm' : cb ≤ maxLen) :
    Calls Try.prog 11 #[.int .i64 room, .agg #[.slice oa os.length ca, .slice ob os2.length cb]] w fun e w' => e = .returned (.bool true) ∧ Below w.heap.size w w' := by
  obtain ⟨W1, hW1⟩ : ∃ W1, W1 = w.alloc (.cells #[.slice oa os.length ca, .slice ob os2.length cb] 83) := ⟨_, rfl⟩
  have hX : Blk W1 w.heap.size 83 #[.slice oa os.length ca, .slice ob os2.length cb] := by rw [hW1]; exact Blk.new _ _ _
  have hB : Below w.heap.size w W1 := by rw [hW1]; exact (Below.refl _ w).alloc (Nat.le_refl _) _
  have pA := Lib.hid (awake_any W1)
  have HX := Lib.hid hX
  have HB := Lib.hid hB
  clear hX hB
  go_enter Try.func11, Try.ntmps11
  go_upto_region 1 with fail
  rw [← hW1]
  clear hW1
  go_wp2_with fail
  refine pA.out.mono ?_
  rintro e w2 ⟨rfl, hb2⟩
  have hB2 := HB.out.trans (hb2.mono HB.out.size)
  have HX2 := Lib.hid (HX.out.below hb2 HX.out.lt)
  have pP := Lib.hid (played_any w2 room oa os ca (h.below hB2) hc hm)
  have x0 : w2.cell? ⟨w.heap.size, 0, none⟩ = some (.slice oa os.length ca) := HX2.out.cell 0
  have HB2 := Lib.hid hB2
  clear hB2 hb2 pA
  go_wp2_with fail
  refine pP.out.mono ?_
  rintro e w3 (⟨hr, rfl, hb3⟩ | ⟨hr, ga, ra, sa, fa, fsA, aa, cca, rfl, hSA, hRA, hfA, hmA, hIA, hb3⟩)
  · unfold refV
    obtain ⟨W4, hW4⟩ : ∃ W4, W4 = w3.alloc (.cells #[.int .i64 room, .int .i64 0, .slice none 0 0] 71) := ⟨_, rfl⟩
    have hb4 : Below w3.heap.size w3 W4 := by rw [hW4]; exact (Below.refl _ w3).alloc (Nat.le_refl _) _
    have hX4 := (HX2.out.below hb3 HX2.out.lt).below hb4 (HX2.out.below hb3 HX2.out.lt).lt
    have x1 : W4.cell? ⟨w.heap.size, 1, none⟩ = some (.slice ob os2.length cb) := hX4.cell 1
    have hB4 := (HB2.out.trans (hb3.mono HB2.out.size)).trans (hb4.mono (HB2.out.trans (hb3.mono HB2.out.size)).size)
    have pQ := Lib.hid (played_any W4 room ob os2 cb (h'.below hB4) hc' hm')
    have HB4 := Lib.hid hB4
    clear hb3 hb4 hB4 hX4 pP x0
    go_upto_region 4 with fail
    rw [← hW4]
    clear hW4
    go_wp2_with fail
    refine pQ.out.mono ?_
    rintro e w5 (⟨hr5, rfl, hb5⟩ | ⟨hr5, gb, rb, sb, fb, fsB, ab, ccb, rfl, hSB, hRB, hfB, hmB, hIB, hb5⟩)
    · unfold refV
      have HB5 := Lib.hid (HB4.out.trans (hb5.mono HB4.out.size))
      clear hb5 pQ x1
      go_wp2_with fail
      go_ret
      exact ⟨rfl, HB5.out.trans ((Below.refl _ w5).alloc HB5.out.size _)⟩
    · exact absurd hr5 (by omega)
  · unfold refV
    obtain ⟨W4, hW4⟩ : ∃ W4, W4 = w3.alloc (.cells #[.int .i64 room, .int .i64 fa, .slice aa fsA.length cca] 71) := ⟨_, rfl⟩
    have hb4 : Below w3.heap.size w3 W4 := by rw [hW4]; exact (Below.refl _ w3).alloc (Nat.le_refl _) _
    have hN4 : Blk W4 w3.heap.size 71 #[.int .i64 room, .int .i64 fa, .slice aa fsA.length cca] := by rw [hW4]; exact Blk.new _ _ _
    have hz4 : W4.heap.size = w3.heap.size + 1 := by rw [hW4]; simp
    have hX4 := (HX2.out.below hb3 HX2.out.lt).below hb4 (HX2.out.below hb3 HX2.out.lt).lt
    have x1 : W4.cell? ⟨w.heap.size, 1, none⟩ = some (.slice ob os2.length cb) := hX4.cell 1
    have hB4 := (HB2.out.trans (hb3.mono HB2.out.size)).trans (hb4.mono (HB2.out.trans (hb3.mono HB2.out.size)).size)
    have pQ := Lib.hid (played_any W4 room ob os2 cb (h'.below hB4) hc' hm')
    have HB4 := Lib.hid hB4
    have HSA := Lib.hid (hSA.below hb4)
    have HRA := Lib.hid (hRA.below hb4)
    have HIA := Lib.hid hIA
    have HN4 := Lib.hid hN4
    clear hb3 hb4 hB4 hX4 pP x0 hSA hRA hIA hN4
    go_upto_region 4 with fail
    rw [← hW4]
    clear hW4
    obtain ⟨na, hna⟩ : ∃ na, w3.heap.size = na := ⟨_, rfl⟩
    rw [hna] at hz4 HN4
    simp only [hna]
    clear hna
    go_wp2_with fail
    refine pQ.out.mono ?_
    rintro e w5 (⟨hr5, rfl, hb5⟩ | ⟨hr5, gb, rb, sb, fb, fsB, ab, ccb, rfl, hSB, hRB, hfB, hmB, hIB, hb5⟩)
    · exact absurd hr5 (by omega)
    · unfold refV
      obtain ⟨W6, hW6⟩ : ∃ W6, W6 = w5.alloc (.cells #[.int .i64 room, .int .i64 fb, .slice ab fsB.length ccb] 71) := ⟨_, rfl⟩
      have hb6 : Below w5.heap.size w5 W6 := by rw [hW6]; exact (Below.refl _ w5).alloc (Nat.le_refl _) _
      have hN6 : Blk W6 w5.heap.size 71 #[.int .i64 room, .int .i64 fb, .slice ab fsB.length ccb] := by rw [hW6]; exact Blk.new _ _ _
      have hNA := (HN4.out.below hb5 (by omega)).below hb6 (by have := hb5.size; omega)
      have hSA6 := (HSA.out.below hb5).below hb6
      have hSB6 := hSB.below hb6
      have hRA6 := (HRA.out.below hb5).below hb6
      have hRB6 := hRB.below hb6
      have hB6 := (HB4.out.trans (hb5.mono HB4.out.size)).trans (hb6.mono (HB4.out.trans (hb5.mono HB4.out.size)).size)
      have hlA : (fsA.map tag).length = fsA.length := by simp
      have hlB : (fsB.map tag).length = fsB.length := by simp
      have tA := HIA.out.top
      have qA := HIA.out.pos
      have tB := hIB.top
      have qB := hIB.pos
      have pD := Lib.hid (sdiffer_any W6 ga ra gb rb room fa room fb sa sb (fsA.map tag) (fsB.map tag) hSA6 hSB6 qA (by rw [hlA]; omega) qB (by rw [hlB]; omega))
      have pR := Lib.hid (fun W (hb : Below W6.heap.size W6 W) => rfdiffer_any W room fa room fb aa ab fsA fsB cca ccb (hRA6.below hb) (hRB6.below hb) hfA hmA hfB hmB qA (by omega) qB (by omega))
      unfold refV at pR
      have HB6 := Lib.hid hB6
      have HNA := Lib.hid hNA
      have HNB := Lib.hid hN6
      have hnal : na < W6.heap.size := hNA.lt
      have hnbl : w5.heap.size < W6.heap.size := hN6.lt
      have HLA := Lib.hid hlA
      clear hb5 hb6 hNA hSA6 hSB6 hRA6 hRB6 hB6 hSB hRB hIB hN6 pQ x1 hlA
      go_upto_region 5 with fail
      rw [← hW6]
      clear hW6
      obtain ⟨nb, hnb⟩ : ∃ nb, w5.heap.size = nb := ⟨_, rfl⟩
      rw [hnb] at HNB hnbl
      simp only [hnb]
      clear hnb
      go_wp2_with fail
      refine pD.out.mono ?_
      rintro e w7 ⟨L1, L2, rfl, hL1, hL2, hb7⟩
      have hNA7 := HNA.out.below hb7 hnal
      have hNB7 := HNB.out.below hb7 hnbl
      have a0 : w7.cell? ⟨na, 0, none⟩ = some (.int .i64 room) := hNA7.cell 0
      have a1 : w7.cell? ⟨na, 1, none⟩ = some (.int .i64 fa) := hNA7.cell 1
      have a2 : w7.cell? ⟨na, 2, none⟩ = some (.slice aa fsA.length cca) := hNA7.cell 2
      have b0 : w7.cell? ⟨nb, 0, none⟩ = some (.int .i64 room) := hNB7.cell 0
      have b1 : w7.cell? ⟨nb, 1, none⟩ = some (.int .i64 fb) := hNB7.cell 1
      have b2 : w7.cell? ⟨nb, 2, none⟩ = some (.slice ab fsB.length ccb) := hNB7.cell 2
      have pR7 := Lib.hid (pR.out w7 hb7)
      rw [HLA.out] at hL1 hL2
      have HL1 := Lib.hid hL1
      have HL2 := Lib.hid hL2
      have HB7 := Lib.hid (HB6.out.trans (hb7.mono HB6.out.size))
      clear hNA7 hNB7 hb7 hL1 hL2 pD pR
      go_wp2_with fail
      refine pR7.out.mono ?_
      rintro e w8 ⟨M1, M2, rfl, hM1, hM2, hb8⟩
      obtain rfl : L1 = M1 := HL1.out.same hM1
      obtain rfl : L2 = M2 := HL2.out.same hM2
      have HB8 := Lib.hid (HB7.out.trans (hb8.mono HB7.out.size))
      clear hM1 hM2 hb8 pR7 a0 a1 a2 b0 b1 b2
      go_wp2_with fail
      go_ret
      exact ⟨ret_bool (by simp), HB8.out⟩
end Go.Proofs.Ytblnfkhaicjeaaa.Sav
