/-
  The document's Play, on a state as a value.
-/
import Derived.Test.YtblnfkhaicjeaaaRstep
namespace Go.Proofs.Ytblnfkhaicjeaaa.Gm
open Go.RowKit Go.Sort Go.Proofs.Ytblnfkhaicjeaaa.Num
set_option linter.all false

/-- What lies there while it is played: the state, the result. -/
structure PlayX (w W : World) (f : F) : Prop where
  st : SB W w.heap.size 33 f
  res : Blk W (w.heap.size + 1) 33 Try.zeroCells33
  lo : RowKit.Below w.heap.size w W
theorem PlayX.below {w W W' : World} {f : F} (h : PlayX w W f) (hb : RowKit.Below W.heap.size W W') : PlayX w W' f :=
  ⟨h.st.below hb h.st.lt, h.res.below hb h.res.lt, h.lo.trans (hb.mono h.lo.size)⟩
theorem PlayX.touchG {w W W' : World} {f f' : F} (h : PlayX w W f) (T : Touch (fun k => k = w.heap.size) W W') (hs : SB W' w.heap.size 33 f') : PlayX w W' f' :=
  ⟨hs, h.res.touch T (by omega), h.lo.trans (T.below h.lo.size (fun k hk => by omega))⟩

set_option maxRecDepth 100000 in
set_option maxHeartbeats 8000000 in
theorem rplay_any (w : World) (C : Array Value) (f : F) (fr sc : Int) (a : Option Addr) (c : Nat) (ls : List (Nat × Nat)) (LC : Let C f) (hr : InRow w a ls) (hI : Inv fr sc f) (hl : ls.length ≤ 281474976710656) (hsc : sc ≤ 281474976710656) (hfr : fr ≤ 281474976710656) (hfr0 : 0 ≤ fr) :
    Calls Try.prog 19 #[.agg C, .slice a ls.length c] w fun e w' => ∃ C', Let C' (playF f ls ls.length) ∧ e = .returned (.agg C') ∧ Below w.heap.size w w' := by
  obtain ⟨W1, hW1⟩ : ∃ W1, W1 = (w.alloc (.cells C 33)).alloc (.cells Try.zeroCells33 33) := ⟨_, rfl⟩
  have E1 : PlayX w W1 f := by
    refine ⟨?_, ?_, ?_⟩
    · rw [hW1]; exact (LC.sb (Blk.new w 33 C)).alloc _
    · rw [hW1]
      have := Blk.new (w.alloc (.cells C 33)) 33 Try.zeroCells33
      simpa using this
    · rw [hW1]; exact ((Below.refl _ w).alloc (Nat.le_refl _) _).alloc (by simp) _
  have HR := Lib.hid hr
  have HI := Lib.hid hI
  have HE1 := Lib.hid E1
  clear hr hI E1 LC
  go_enter Try.func19, Try.ntmps19
  go_upto_region 1 with fail
  rw [← hW1]
  clear hW1
  go_wp2_with fail
  go_loopw [5] (fun iv wr => ∃ k : Nat, k ≤ ls.length ∧ iv = .int .i64 k ∧ PlayX w wr (playF f ls k)) (fun iv _ => ls.length - (intOf iv).toNat)
  case atStart => exact ⟨0, by omega, rfl, HE1.out⟩
  case round =>
    clear HE1
    obtain ⟨k, hk, rfl, hE⟩ := hrel
    by_cases hlt : k < ls.length
    · obtain ⟨gb, ob, rfl, hgb, hcb⟩ := (HR.out.below hE.lo).2 (by omega)
      obtain ⟨c0, c1⟩ := hcb k hlt
      have i0 : (k : Int) < (ls.length : Int) := by omega
      have i1 : (0 : Int) ≤ (k : Int) := by omega
      have hInv := HI.out.play ls k
      have HE := Lib.hid (show playF f ls (k + 1) = stepF (playF f ls k) (inA ls k) from rfl)
      obtain ⟨C5, LC5⟩ := let_of (playF f ls k)
      have pS := Lib.hid (fun W => rstep_any W C5 (playF f ls k) _ _ (inA ls k) LC5 (inA_lt HR.out.1 k) hInv (by omega) (by omega) (by omega))
      rw [← HE.out] at pS
      unfold inV at pS
      have hX := LC5.blk hE.st
      have hif5 := LC5.info
      have HSZ := Lib.hid LC5.size
      have HL5 := Lib.hid LC5
      have HE5 := Lib.hid hE
      have HL := Lib.hid hlt
      clear hE LC5 hInv HE hcb hlt
      generalize inA ls k 0 = n0 at *
      generalize inA ls k 1 = n1 at *
      go_upto_region 4 with fail
      refine wp_region_still_tail 5 (by kernel_rfl) (by kernel_rfl) ?_
      simp only [List.take_succ_cons, List.take_zero, List.drop_succ_cons, List.drop_zero]
      refine wpStill_load_blk (by rfl) 33 _ (by rfl) w.heap.size (by rfl) _ C5 _ hX.drew Try.underlying33 (by rfl) hif5 ?_
      iterate 4 still_step
      refine wpStill_nil ?_
      change wpList _ _ _ _ _ (World.drew _)
      go_wp2_with fail
      refine (pS.out _).mono ?_
      rintro e w5 ⟨C6, LC6, rfl, h3⟩
      have h3' : Below wr.heap.size wr w5 := ⟨h3.os, h3.tape, h3.output, h3.size, h3.block⟩
      have E5 := HE5.out.below h3'
      have X5 := HL5.out.blk E5.st
      have hif6 := LC6.info
      have hone6 := LC6.one
      have hsz6 : C5.size = C6.size := by rw [HSZ.out]; exact LC6.size.symm
      have HC6 := Lib.hid LC6
      have HE6 := Lib.hid E5
      clear hX hif5 c0 c1 pS LC6 E5 h3 h3' HE5
      go_wp2_with (refine wpList_store_blk (by rfl) 33 _ _ (by rfl) w.heap.size C6 (by rfl) (by rfl) _ C5 X5 hif6 hsz6 hone6 ?_; intro W6 hd6 ht6)
      have E6 := HE6.out.touchG ht6 (HC6.out.sb hd6)
      have hlt := HL.out
      clear X5 hif6 hone6 hsz6 hd6 ht6 HL5 HSZ
      go_wp2_with fail
      go_roundw
      case rel => exact ⟨k + 1, by omega, by go_num, E6⟩
      case measure => simp [intOf]; omega
    · obtain rfl : k = ls.length := by omega
      clear hlt hk HI HR
      obtain ⟨C9, LC9⟩ := let_of (playF f ls ls.length)
      have hS9 := LC9.blk hE.st
      have R9 := hE.res
      have B9 := hE.lo
      have hzs : Try.zeroCells33.size = C9.size := by rw [LC9.size, ← stA_zero]; exact stA_size _
      have hif := LC9.info
      have hone := LC9.one
      have HC9 := Lib.hid LC9
      clear LC9 hE
      go_wp2_with (first | (refine wpList_load_blk (by rfl) 33 _ (by rfl) w.heap.size (by rfl) _ C9 _ hS9 Try.underlying33 (by rfl) hif ?_) | (refine wpList_store_blk (by rfl) 33 _ _ (by rfl) (w.heap.size + 1) C9 (by rfl) (by rfl) _ _ R9 hif hzs hone ?_; intro W6 hd6 ht6) | fail)
      refine bodyPost_ret (v := .agg C9) (results_blk Try.results19 _ _ (w.heap.size + 1) _ _ _ (by rfl) hd6 Try.underlying33 (by rfl) hif) rfl ⟨C9, HC9.out, rfl, ?_⟩
      exact B9.trans (ht6.below B9.size (fun k hk => by omega))
end Go.Proofs.Ytblnfkhaicjeaaa.Gm
