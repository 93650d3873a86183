/-
  backstaylaw23.GameSums.
-/
import Derived.Test.YtblnfkhaicjeaaaWhole
import Derived.Test.YtblnfkhaicjeaaaNetG
namespace Go.Proofs.Ytblnfkhaicjeaaa.Gm
open Go.RowKit Go.Sort Go.Proofs.Ytblnfkhaicjeaaa.Num Go.Proofs.Ytblnfkhaicjeaaa.Byt
set_option linter.all false
attribute [local go_sem ↓] exec33
attribute [local go_sem] loadR_at cellsAt_drew

theorem nth_some {l : List Int} {k : Nat} (h : k < l.length) : l[k]? = some (nth l k) := by simp [nth, List.getD, h]
theorem out_row {w : World} {v : Value} {xs : List Int} (h : Out w v xs) : ∃ a c, v = .slice a xs.length c ∧ Row .u8 w a xs.length xs := by
  rcases On.form h with ⟨rfl, hn, hx⟩ | ⟨g, cap, rfl, hnc, hcm, how, hgl, hcell, hfr⟩
  · exact ⟨none, 0, by rw [hn], rfl, fun hp => by omega⟩
  · refine ⟨_, _, rfl, rfl, fun hp => ⟨g, 0, rfl, hgl, fun j hj => ?_⟩⟩
    rw [Nat.zero_add]
    exact hcell j _ (by unfold ub; rw [List.getElem?_map, nth_some hj]; rfl)
theorem Row.below8 {w w' : World} {a : Option Addr} {len : Nat} {zs : List Int} (h : Row .u8 w a len zs) (hb : Below w.heap.size w w') : Row .u8 w' a len zs := h.below hb

set_option maxRecDepth 100000 in
set_option maxHeartbeats 8000000 in
theorem sums_law (w : World) (f : F) (hw : Wf f) : Calls Try.prog 4 #[stV f] w fun e w' => e = .returned (.bool true) ∧ Below w.heap.size w w' := by
  obtain ⟨C, LC⟩ := let_of f
  obtain ⟨W1, hW1⟩ : ∃ W1, W1 = w.alloc (.cells C 33) := ⟨_, rfl⟩
  have hX : Blk W1 w.heap.size 33 C := by rw [hW1]; exact Blk.new _ _ _
  have hB : Below w.heap.size w W1 := by rw [hW1]; exact (Below.refl _ w).alloc (Nat.le_refl _) _
  have hlen := stB_len f
  have pA := Lib.hid (fun W => awake_any W)
  have pB := Lib.hid (fun W => bytes_any W f hw)
  have pR := Lib.hid (fun W => rstB_any W f hw)
  have pS := Lib.hid (fun W => sum_any W f hw)
  have pT := Lib.hid (fun W => rsum_any W f hw)
  unfold stV at pB pR pS pT ⊢
  rw [← LC.eq] at pB pR pS pT ⊢
  obtain ⟨L, hL⟩ : ∃ L, stB f = L := ⟨_, rfl⟩
  rw [hL] at pB pR pS pT hlen
  have hsz := LC.size
  have c0 : cellsAt W1.drew w.heap.size = C := cellsAt_blk hX
  have hX' := Lib.hid hX
  have HLEN := Lib.hid hlen
  have HB := Lib.hid hB
  clear hX hw LC hL hlen hB
  go_enter Try.func4, Try.ntmps4
  go_upto_region 1 with fail
  rw [← hW1]
  clear hW1
  generalize sumL L = sm at *
  go_region_held3 (fun w' => cellsAt w' w.heap.size = C) (first | exact c0 | exact cellsAt_blk XA | exact cellsAt_blk XB | exact cellsAt_blk XR | exact cellsAt_blk XM | exact cellsAt_blk XS | exact cellsAt_blk XT)
    (first
      | (go_at_call 15; refine (pA.out _).mono ?_; rintro e wA ⟨rfl, bA⟩; have XA : Blk wA w.heap.size 33 C := (Blk.drew hX'.out).below bA hX'.out.lt; have YA : Below w.heap.size w wA := HB.out.drew.trans (bA.mono HB.out.size))
      | (go_at_call 22; refine (pB.out _).mono ?_; rintro e wB ⟨vB, rfl, RB⟩; have XB : Blk wB w.heap.size 33 C := (by first | exact XR.below RB.below XR.lt | exact XA.below RB.below XA.lt); have YB : Below w.heap.size w wB := (by first | exact YR.trans (RB.below.mono YR.size) | exact YA.trans (RB.below.mono YA.size)); obtain ⟨aB, cB, rfl, rowB⟩ := out_row RB.out)
      | (go_at_call 23; refine (pR.out _).mono ?_; rintro e wR ⟨vR, rfl, RR⟩; have XR : Blk wR w.heap.size 33 C := (by first | exact XB.below RR.below XB.lt | exact XA.below RR.below XA.lt); have YR : Below w.heap.size w wR := (by first | exact YB.trans (RR.below.mono YB.size) | exact YA.trans (RR.below.mono YA.size)); obtain ⟨aR, cR, rfl, rowR⟩ := out_row RR.out)
      | (go_at_call 21; refine (Netw.same_bytes _ aB aR L.length cB cR L (by first | exact rowB.below RR.below | exact rowB) (by first | exact rowR.below RB.below | exact rowR) (by have := HLEN.out; omega)).mono ?_; rintro e wM ⟨rfl, bM⟩; have XM : Blk wM w.heap.size 33 C := (by first | exact XR.below bM XR.lt | exact XB.below bM XB.lt); have YM : Below w.heap.size w wM := (by first | exact YR.trans (bM.mono YR.size) | exact YB.trans (bM.mono YB.size)))
      | (go_at_call 24; refine (pS.out _).mono ?_; rintro e wS ⟨rfl, bS⟩; have XS : Blk wS w.heap.size 33 C := (by first | exact XT.below bS XT.lt | exact XM.below bS XM.lt); have YS : Below w.heap.size w wS := (by first | exact YT.trans (bS.mono YT.size) | exact YM.trans (bS.mono YM.size)))
      | (go_at_call 25; refine (pT.out _).mono ?_; rintro e wT ⟨rfl, bT⟩; have XT : Blk wT w.heap.size 33 C := (by first | exact XS.below bT XS.lt | exact XM.below bT XM.lt); have YT : Below w.heap.size w wT := (by first | exact YS.trans (bT.mono YS.size) | exact YM.trans (bT.mono YM.size))))
  all_goals
    go_wp2_with fail
    go_ret
    first
      | exact ⟨rfl, YT⟩
      | exact ⟨rfl, YS⟩
      | exact ⟨ret_bool (by simp), YT⟩
      | exact ⟨ret_bool (by simp), YS⟩
end Go.Proofs.Ytblnfkhaicjeaaa.Gm
