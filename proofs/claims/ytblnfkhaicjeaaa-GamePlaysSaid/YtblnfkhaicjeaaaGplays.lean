/-
  backstaylaw23.GamePlays.
-/
import Derived.Test.YtblnfkhaicjeaaaRplay
import Derived.Test.YtblnfkhaicjeaaaGholds
namespace Go.Proofs.Ytblnfkhaicjeaaa.Gm
open Go.RowKit Go.Sort Go.Proofs.Ytblnfkhaicjeaaa.Num Go.Proofs.Ytblnfkhaicjeaaa.Eql
set_option linter.all false
attribute [local go_sem ↓] exec33
attribute [local go_sem] loadR_at cellsAt_drew

set_option maxRecDepth 100000 in
set_option maxHeartbeats 8000000 in
theorem plays_law (w : World) (seed : Int) (h0 : 0 ≤ seed) (h1 : seed < 4294967296) (a : Option Addr) (c : Nat) (la : List (Nat × Nat)) (hr : InRow w a la) (hl : la.length ≤ 9223372036854775807) :
    Calls Try.prog 3 #[.int .u32 seed, .slice a la.length c] w fun e w' => e = .returned (.bool true) ∧ Below w.heap.size w w' := by
  have pA := Lib.hid (awake_any w)
  by_cases hlong : la.length ≤ 300
  · have i1 : ¬ (300 : Int) < (la.length : Int) := by omega
    have pN := Lib.hid (fun W => new_any W seed h0 h1)
    have pRN := Lib.hid (fun W => rnew_any W seed h0 h1)
    have HI := Inv.new seed h0 h1
    have HIa := HI.play la la.length
    obtain ⟨C, LC⟩ := let_of (newF seed)
    obtain ⟨D, LD⟩ := let_of (playF (newF seed) la la.length)
    have pP := Lib.hid (fun W (h : InRow W a la) => play_any W (newF seed) 0 0 a c la h HI (by omega) (by omega) (by omega) (by omega))
    have pRP := Lib.hid (fun W (h : InRow W a la) => rplay_any W C (newF seed) 0 0 a c la LC h HI (by omega) (by omega) (by omega) (by omega))
    have pR := Lib.hid (fun W => roll_any W seed h0 h1)
    have wf0 := HI.wf (by omega) (by omega) (by omega)
    have wf1 := HIa.wf (by omega) (by omega) (by omega)
    unfold stV at pN pRN pP
    rw [← LC.eq] at pN pRN pP
    rw [← LD.eq] at pP
    have HLD := Lib.hid (show ∀ C', Let C' (playF (newF seed) la la.length) → C' = D from fun C' h => h.eq.trans LD.eq.symm)
    have hq0 : ∀ W, (Op.equalIn 10000 33 (.agg C) (.agg C)).run Try.prog W = .ok true W := fun W => by
      rw [LC.eq]; exact st_same W wf0 wf0 rfl
    have hq1 : ∀ W, (Op.equalIn 10000 33 (.agg D) (.agg D)).run Try.prog W = .ok true W := fun W => by
      rw [LD.eq]; exact st_same W wf1 wf1 rfl
    have hq0 := Lib.hid hq0
    have hq1 := Lib.hid hq1
    have hcs := LC.size
    have hds := LD.size
    have HAC := Lib.hid (fun W => alloc_store W LC)
    have HR := Lib.hid hr
    have LC' := Lib.hid LC
    clear LC LD hr HI HIa hlong wf0 wf1
    have e1 : IntKind.u32.wrap (IntKind.u32.wrap (seed * 1664525) + 1013904223) = rollV seed := by simp [IntKind.wrap, IntKind.bits, IntKind.signed, rollV]
    have e3 : (seed * 1664525 + 1013904223) % 4294967296 = rollV seed := by rw [← e1]; simp [IntKind.wrap, IntKind.bits, IntKind.signed]
    have E1 := Lib.hid e1
    have E3 := Lib.hid e3
    clear e1 e3
    generalize rollV seed = rs at *
    generalize playF (newF seed) la la.length = F8 at *
    generalize newF seed = F0 at *
    go_enter Try.func3, Try.ntmps3
    go_wp2_with fail
    refine pA.out.mono ?_
    rintro e w1 ⟨rfl, hb1⟩
    go_wp2_with fail
    refine (pN.out _).mono ?_
    rintro e w2 ⟨rfl, hb2⟩
    obtain ⟨W3, hrun, hS3, hB3, hz3⟩ := HAC.out w2
    have hz66' := hz66
    go_upto_region 6 with fail
    clear hrun hz66'
    have hz1 := hb1.size
    have hz2 := hb2.size
    have hBB := (hb1.trans (hb2.mono hz1)).trans (hB3.mono (by omega))
    have HX := Lib.hid (LC'.out.blk hS3)
    have HB := Lib.hid hBB
    have c0 : cellsAt W3.drew w2.heap.size = C := cellsAt_blk HX.out
    have hg := guard33
    have hqo0 := hq0.out
    have hqo1 := hq1.out
    have e1 := E1.out
    have e3 := E3.out
    clear hb1 hb2 hS3 hB3 hz3 hz1 hz2 hBB HAC pA pN
    go_region_held3 (fun w' => cellsAt w' w2.heap.size = C) (first | exact c0 | exact cellsAt_blk P1)
      (first
        | (go_at_call 17; refine (pRN.out _).mono ?_; rintro e wA ⟨rfl, bA⟩; have P1 : Blk wA w2.heap.size 33 C := (Blk.drew HX.out).below bA HX.out.lt; have PB : Below w.heap.size w wA := HB.out.drew.trans (bA.mono HB.out.size))
        | (go_at_call 18; refine (pP.out _ (HR.out.below PB)).mono ?_; rintro e wA ⟨rfl, bA⟩; have P1 : Blk wA w2.heap.size 33 C := P1.below bA P1.lt; have PB : Below w.heap.size w wA := PB.trans (bA.mono PB.size))
        | (go_at_call 19; refine (pRP.out _ (HR.out.below PB)).mono ?_; rintro e wA ⟨C', LC9, rfl, bA⟩; have hce := HLD.out C' LC9; subst hce; have P1 : Blk wA w2.heap.size 33 C := P1.below bA P1.lt; have PB : Below w.heap.size w wA := PB.trans (bA.mono PB.size))
        | (go_at_call 20; refine (pR.out _).mono ?_; rintro e wA ⟨rfl, rfl⟩)
        | fail "no arm")
    all_goals
      go_wp2_with fail
      go_ret
      first
        | exact ⟨rfl, PB⟩
        | exact ⟨ret_bool (by simp), PB⟩
  · have i1 : (300 : Int) < (la.length : Int) := by omega
    go_enter Try.func3, Try.ntmps3
    go_wp2_with fail
    refine pA.out.mono ?_
    rintro e w1 ⟨rfl, hb1⟩
    go_wp2_with fail
    go_ret
    exact ⟨rfl, hb1⟩
end Go.Proofs.Ytblnfkhaicjeaaa.Gm
