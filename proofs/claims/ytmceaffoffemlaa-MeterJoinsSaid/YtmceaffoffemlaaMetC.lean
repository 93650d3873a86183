/-
  meter: New, Count.
-/
import Derived.Test.YtmceaffoffemlaaMetB
import Derived.Laws.OwnMore
namespace Go.Proofs.Ytmceaffoffemlaa.Met
open Go.RowKit
set_option linter.all false

theorem row_src {k : IntKind} {W : World} {a : Option Addr} {l : Nat} {zs : List Int} (h : Row k W a l zs) : Src W a l (zs.map (.int k)) := by
  by_cases h0 : l = 0
  · subst h0
    exact .inl ⟨rfl, by simp [List.eq_nil_of_length_eq_zero h.1]⟩
  · obtain ⟨b, off, rfl, hb, hc⟩ := h.2 (by omega)
    refine .inr ⟨_, rfl, fun j u hu => ?_⟩
    have hj : j < l := by
      have := (List.getElem?_eq_some_iff.1 hu).1
      simpa [h.1] using this
    have hadd : (⟨b, off, none⟩ : Addr).add j = ⟨b, off + j, none⟩ := by unfold Addr.add; split <;> simp_all
    have hjz : j < zs.length := by rw [h.1]; exact hj
    have e := hc j hj
    rw [hadd, e]
    simpa [nth, List.getD, hjz] using hu
theorem int_info : (Try.prog.info? 3).map (fun i => (i.zero, i.size, i.bytes)) = some (some (.int .i64 0), 1, 8) := by kernel_rfl

set_option maxRecDepth 100000 in
set_option maxHeartbeats 1000000 in
theorem clone_any (w : World) (a : Option Addr) (c : Nat) (zs : List Int) (hr : Row .i64 w a zs.length zs) (h1 : 1 ≤ zs.length) (h2 : zs.length ≤ 1000000) :
    Calls Try.prog 55 #[.slice a zs.length c] w fun e w' => ∃ v, e = .returned v ∧ On w' 3 1 v zs.length (zs.map (.int .i64)) ∧ (∀ g, v.ownBlock = some g → w.heap.size ≤ g) ∧ Below w.heap.size w w' := by
  obtain ⟨i0, hi0, hz0, hz1, hz2⟩ := info_parts int_info
  obtain ⟨b, off, rfl, hb, _⟩ := hr.2 (by omega)
  have hsrc := Lib.hid (row_src (hr.below ((Below.refl _ w).alloc (Nat.le_refl _) (.cells #[] 3))))
  have f1 : On (w.alloc (.cells #[] 3)) 3 1 (.slice (some ⟨w.heap.size, 0, none⟩) 0 0) 0 [] := On.empty _ _ _
  have hq1 : 0 + zs.length ≤ maxLen := by simp only [maxLen]; omega
  clear hr
  have hsn : ∀ (x : Addr) (n c : Nat) (W : World), Sem.run Try.prog (binOp .eql 23 (.slice (some x) n c) (.slice none 0 0)) W = .ok (.bool false) W := by
    intro x n c W
    have h : ∀ d : Nat, Sem.run Try.prog (Op.equalIn (d + 1) 23 (.slice (some x) n c) (.slice none 0 0)) W = .ok false W := fun d => by
      simp [Op.equalIn, run_underlying Try.underlying23, go_sem]
    have h' := h (Op.maxDepth - 1)
    simp only [binOp, Op.equal]
    rw [Sem.run_bind]
    erw [h']
    rfl
  go_enter Try.func55, Try.ntmps55
  go_wp2_with (at_builtin; refine wpList_append_on _ rfl (.tmp 5) (.tmp 6) _ rfl 3 i0 _ 1 8 Try.underlying23 hi0 hz0 hz1 hz2 rfl (by omega) (.slice (some ⟨w.heap.size, 0, none⟩) 0 0) 0 [] rfl f1 (some ⟨b, off, none⟩) zs.length c (zs.map (.int .i64)) rfl (by simp) hsrc.out (one_map _ _) hq1 (by omega) ?_; intro v' w1 hown1 hg1 hat1; rw [Nat.zero_add, List.nil_append] at hown1; obtain ⟨a', c', rfl, hlc', hcm'⟩ := hown1.slice)
  go_ret
  have hB : Below w.heap.size w w1 := ((Below.refl _ w).alloc (Nat.le_refl _) (.cells #[] 3)).grown hg1 (by simp) (fun g hg => by simp [Value.ownBlock] at hg; omega)
  refine ⟨_, rfl, hown1, fun g hg => ?_, hB⟩
  rcases hat1 with e | e <;> (have e' := hg.symm.trans e; simp [Value.ownBlock] at e'; omega)
theorem counts_on {bs : List Int} (h : bs.length + 1 ≤ maxLen) (W : World) : On (W.alloc (.cells (madeCells #[.int .i64 0] (bs.length + 1)) 3)) 3 1 (.slice (some ⟨W.heap.size, 0, none⟩) (bs.length + 1) (bs.length + 1)) (bs.length + 1) ((cts bs []).map (.int .i64)) := by
  have e : (cts bs []).map (Value.int .i64) = List.replicate (bs.length + 1) (.int .i64 0) := by
    apply List.ext_getElem
    · simp [cts]
    · intro i h1 h2
      simp [cts, cnt]
  · refine ⟨by simp [cts], .inr ⟨W.heap.size, bs.length + 1, madeCells #[.int .i64 0] (bs.length + 1), rfl, heap_new W _, Nat.le_refl _, h, by rw [size_madeCells]; omega, ?_⟩⟩
    rw [toList_madeCells_one, e]
    simp
theorem new_fin {bs : List Int} {bv cv : Value} (W : World) (hb : On W 3 1 bv bs.length (bs.map (.int .i64))) (hc : On W 3 1 cv (bs.length + 1) ((cts bs []).map (.int .i64))) (hne : ∀ g, bv.ownBlock = some g → cv.ownBlock ≠ some g) (hR : Right bs) :
    TAt (W.alloc (.cells #[bv, cv, .int .i64 0, .int .i64 0, .int .i64 0, .int .i64 0] 97)) W.heap.size bv cv bs [] :=
  ⟨Blk.new W _ _, hb.alloc _, hc.alloc _, hne, hR⟩

set_option maxRecDepth 100000 in
set_option maxHeartbeats 4000000 in
theorem new_ok (w : World) (a : Option Addr) (c : Nat) (bs : List Int) (hr : Row .i64 w a bs.length bs) (hR : Right bs) :
    Calls Try.prog 25 #[.slice a bs.length c] w fun e w' => ∃ t bv cv, e = .returned (.tuple #[.pointer (some ⟨t, 0, none⟩), .int .i64 0]) ∧ TAt w' t bv cv bs [] ∧ w.heap.size ≤ t ∧ (∀ g, cv.ownBlock = some g → w.heap.size ≤ g) ∧ Below w.heap.size w w' := by
  have h1 : ¬ (bs.length : Int) < 1 := by have := hR.2.1; omega
  have h2 : ¬ (64 : Int) < (bs.length : Int) := by have := hR.2.2; omega
  have h64 := hR.2.2
  have HR := Lib.hid hR
  have pC := Lib.hid (fun (W : World) (hb : Below w.heap.size w W) => clone_any W a c bs (hr.below hb) hR.2.1 (by omega))
  obtain ⟨gb, ob, rfl, hgb, hcb⟩ := hr.2 (by have := hR.2.1; omega)
  clear hR hr
  go_enter Try.func25, Try.ntmps25
  go_wp2_with fail
  go_loopw [16] (fun iv wr => ∃ k : Nat, k ≤ bs.length ∧ iv = .int .i64 k ∧ wr = w) (fun iv _ => bs.length - (intOf iv).toNat)
  case atStart => exact ⟨0, by omega, rfl, rfl⟩
  case round =>
    obtain ⟨k, hk, rfl, rfl⟩ := hrel
    by_cases hlt : k < bs.length
    · have ck := hcb k hlt
      have i1 : (0 : Int) ≤ (k : Int) := by omega
      have i2 : (k : Int) < (bs.length : Int) := by omega
      by_cases hk0 : k = 0
      · subst hk0
        rw [Nat.add_zero] at ck
        clear hcb
        go_wp2_with fail
        go_roundw
        case rel => exact ⟨1, by omega, by go_num, by first | trivial | rfl⟩
        case measure => simp [intOf]; omega
      · obtain ⟨j, rfl⟩ : ∃ j, k = j + 1 := ⟨k - 1, by omega⟩
        have cj := hcb j (by omega)
        have i3 : (0 : Int) < (j : Int) + 1 := by omega
        have hwj : IntKind.i64.wrap ((j : Int) + 1 - 1) = (j : Int) := by rw [IntWalk.i64_in _ (by omega)]; omega
        have i4 : (0 : Int) ≤ (j : Int) := by omega
        have i5 : (j : Int) < (bs.length : Int) := by omega
        have hadj : ¬ nth bs (j + 1) ≤ nth bs j := by have := HR.out.1 j (by omega); omega
        clear hcb
        generalize nth bs (j + 1) = v1 at *
        generalize nth bs j = v0 at *
        push_cast at *
        go_wp2_with fail
        go_roundw
        case rel => exact ⟨j + 2, by omega, by go_num, by first | trivial | rfl⟩
        case measure => simp [intOf]; omega
    · obtain rfl : k = bs.length := by omega
      clear hcb
      have hmk : ∀ W : World, (Instr.makeSlice 23 (.int .i64 ((bs.length : Int) + 1)) (.int .i64 ((bs.length : Int) + 1))).run Try.prog W = .ok (.slice (some ⟨W.heap.size, 0, none⟩) (bs.length + 1) (bs.length + 1)) (W.alloc (.cells (madeCells #[.int .i64 0] (bs.length + 1)) 3)) := by
        intro W
        obtain ⟨i0, hi0, hz0, hz1, hz2⟩ := info_parts int_info
        have := run_make (P := Try.prog) W 23 3 i0 _ Try.underlying23 hi0 hz0 .i64 .i64 ((bs.length : Int) + 1) ((bs.length : Int) + 1) (by omega) (by omega) (by rw [hz2]; omega) (by omega)
        have e : ((bs.length : Int) + 1).toNat = bs.length + 1 := by omega
        rw [e, hz1] at this
        simp only [Nat.mul_one] at this
        exact this
      have hw1 : IntKind.i64.wrap ((bs.length : Int) + 1) = (bs.length : Int) + 1 := IntWalk.i64_in _ (by omega)
      go_upto_region 9 with fail
      have hB0 : Below wr.heap.size wr wr.drew := below_drewN (Below.refl _ _) 1
      have hB1 : Below wr.heap.size wr (wr.alloc (.cells (madeCells #[.int .i64 0] (bs.length + 1)) 3)).drew := below_drewN ((Below.refl _ wr).alloc (Nat.le_refl _) _) 1
      go_region_with (first | (go_at_call 55; refine (pC.out _ (by first | exact hB0 | exact hB1)).mono ?_; rintro e w2 ⟨v, rfl, hOv, hfv, hbv⟩; obtain ⟨av, cv, rfl, hlv, hmv⟩ := hOv.slice))
      · go_wp2_with fail
        go_ret2
        have hOv2 := hOv.alloc (.cells (madeCells #[.int .i64 0] (bs.length + 1)) 3)
        have hcs := counts_on (bs := bs) (by simp only [maxLen]; omega) w2
        have hz2 := hbv.size
        refine ⟨w2.heap.size + 1, .slice av bs.length cv, .slice (some ⟨w2.heap.size, 0, none⟩) (bs.length + 1) (bs.length + 1), rfl, ?_, ?_, ?_, ?_⟩
        · have := new_fin (w2.alloc (.cells (madeCells #[.int .i64 0] (bs.length + 1)) 3)) hOv2 hcs (fun g hg => by have := hOv.lt g hg; simp [Value.ownBlock]; omega) HR.out
          simpa using this
        · have : wr.heap.size ≤ w2.heap.size := by simpa using hz2
          omega
        · intro g hg
          have : wr.heap.size ≤ w2.heap.size := by simpa using hz2
          simp [Value.ownBlock] at hg; omega
        · have hb0 : Below wr.heap.size wr w2 := hB0.trans (hbv.mono (by simp))
          exact (hb0.alloc hb0.size _).alloc (by have := hb0.size; simp; omega) _
      · go_wp2_with fail
        go_ret2
        have hcs := counts_on (bs := bs) (by simp only [maxLen]; omega) wr
        have hz2 := hbv.size
        have hcs2 : On w2 3 1 (.slice (some ⟨wr.heap.size, 0, none⟩) (bs.length + 1) (bs.length + 1)) (bs.length + 1) ((cts bs []).map (.int .i64)) := On.below (w := (wr.alloc (.cells (madeCells #[.int .i64 0] (bs.length + 1)) 3)).drew) hcs.drew hbv (fun g hg => by have := hcs.lt g hg; simpa using this)
        refine ⟨w2.heap.size, .slice av bs.length cv, .slice (some ⟨wr.heap.size, 0, none⟩) (bs.length + 1) (bs.length + 1), rfl, ?_, ?_, ?_, ?_⟩
        · exact new_fin w2 hOv hcs2 (fun g hg => by have := hfv g hg; simp [Value.ownBlock] at this ⊢; omega) HR.out
        · simp at hz2; omega
        · intro g hg
          simp [Value.ownBlock] at hg; omega
        · have hb0 : Below wr.heap.size wr w2 := hB1.trans (hbv.mono (by simp))
          exact hb0.alloc hb0.size _
end Go.Proofs.Ytmceaffoffemlaa.Met
