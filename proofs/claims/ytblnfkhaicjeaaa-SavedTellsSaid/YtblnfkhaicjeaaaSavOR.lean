/-
  backstayref24 by value: Sum, Drop; what saved and backstayref24 both say and keep is the same. Conditions: the list lies in memory, numbers without overflow.
-/
import Derived.Test.YtblnfkhaicjeaaaSavCN
import Derived.Test.YtblnfkhaicjeaaaWhole
import Derived.Test.YtblnfkhaicjeaaaOpenOps
namespace Go.Proofs.Ytblnfkhaicjeaaa.Sav
open Go.RowKit Go.Sort Go.Proofs.Ytblnfkhaicjeaaa.Gm Go.Proofs.Ytblnfkhaicjeaaa.RingE
set_option linter.all false
set_option maxRecDepth 100000 in
set_option maxHeartbeats 2000000 in
theorem rfsum_any (w : World) (room first : Int) (a : Option Addr) (fs : List F) (cap j : Nat) (h : StRow w a fs) (hj : j < fs.length) (hc : fs.length ≤ cap) (hm : cap ≤ maxLen) (h0 : 0 ≤ first) (h1 : first + fs.length ≤ 4611686018427387904) :
    Calls Try.prog 39 #[refV room first a fs.length cap, .int .i64 (first + j)] w fun e w' => e = .returned (.int .u32 (sumL (stB fs[j]))) ∧ Below w.heap.size w w' := by
  have hB : Below w.heap.size w (w.alloc (.cells #[.int .i64 room, .int .i64 first, .slice a fs.length cap] 71)) := (Below.refl _ w).alloc (Nat.le_refl _) _
  have h2 := h.below hB
  obtain ⟨b, off, rfl, hlt, hr⟩ := h2.2 (by omega)
  have hrg := hr j fs[j] (List.getElem?_eq_getElem hj)
  have hwf : Wf fs[j] := h.1 _ (List.getElem_mem hj)
  have HB := Lib.hid hB
  unfold refV
  generalize fs[j] = f at *
  have pS := Lib.hid (fun W => rsum_any W f hwf)
  obtain ⟨C, LC⟩ := let_of f
  rw [← LC.eq] at hrg
  have hdl : (Try.prog.info? 33).map (·.size) = some C.toList.length := by rw [Array.length_toList]; exact LC.info
  unfold stV at pS
  rw [← LC.eq] at pS
  have e1 : first + (j : Int) - first = (j : Int) := by omega
  have hw1 : IntKind.i64.wrap (first + (j : Int) - first) = (j : Int) := by rw [e1]; exact IntWalk.i64_in _ (by omega)
  have hi0 : (0 : Int) ≤ (j : Int) := by omega
  have hi1 : (j : Int) < (fs.length : Int) := by omega
  clear hB h2 hr h LC hwf
  go_enter Try.func39, Try.ntmps39
  go_wp2_with (first
    | (refine wpList_load_mid (by rfl) 33 _ (by rfl) b (off + j * 66) (by rfl) C.toList _ hrg Try.underlying33 (by rfl) hdl ?_)
    | fail)
  refine (pS.out _).mono ?_
  rintro e w2 ⟨rfl, hb⟩
  have HB2 := Lib.hid (HB.out.trans (hb.mono HB.out.size))
  clear hb
  go_wp2_with fail
  go_ret
  exact ⟨rfl, HB2.out⟩
end Go.Proofs.Ytblnfkhaicjeaaa.Sav
namespace Go.Proofs.Ytblnfkhaicjeaaa.Sav
open Go.RowKit Go.Sort Go.Proofs.Ytblnfkhaicjeaaa.Gm Go.Proofs.Ytblnfkhaicjeaaa.RingE
set_option linter.all false
def refDK (first : Int) (len : Nat) (below : Int) : Nat := if below ≤ first then 0 else min len (below - first).toNat
def firstIn (w : World) (b : Nat) : Int := match w.cell? ⟨b, 1, none⟩ with
  | some (.int _ v) => v
  | _ => 0
theorem st_tail {w : World} {b off : Nat} {fs : List F} (h : StRow w (some ⟨b, off, none⟩) fs) (hl : 0 < fs.length) : StRow w (some ⟨b, off + 66, none⟩) (fs.drop 1) := by
  obtain ⟨b', off', e, hlt, hc⟩ := h.2 hl
  cases e
  refine ⟨fun f hf => h.1 f (List.mem_of_mem_drop hf), fun _ => ⟨b, off + 66, rfl, hlt, fun j f hj => ?_⟩⟩
  have := hc (1 + j) f (by rw [← List.getElem?_drop]; exact hj)
  rw [show off + 66 + j * 66 = off + (1 + j) * 66 by omega]
  exact this
theorem st_nil {w : World} (a : Option Addr) : StRow w a [] := ⟨fun f hf => (by simp at hf), fun h => (by simp at h)⟩
theorem cell_result3 {fn : Func} (hfn : fn.results = #[.cell 4 71]) (tmps : Array Value) (W : World) (g : Nat) (t : TypeId) (C : Array Value) (h : Blk W g t C) (hC : (Try.prog.info? 71).map (·.size) = some C.size)
    (h4 : tmps.getD 4 undef = .pointer (some ⟨g, 0, none⟩)) : (results fn tmps).run Try.prog W = .ok (.agg C) W := by
  have e4 : tmps[4]?.getD undef = .pointer (some ⟨g, 0, none⟩) := by simpa using h4
  have hl := run_loadVar_row (P := Try.prog) W g t 71 C (0, 0) _ h Try.underlying71 rfl hC
  simp [results, hfn, e4, asAddr, hl]
set_option maxRecDepth 100000 in
set_option maxHeartbeats 4000000 in
theorem rfdrop_any (w : World) (room first below : Int) (a : Option Addr) (fs : List F) (cap : Nat) (h : StRow w a fs) (hc : fs.length ≤ cap) (hm : cap ≤ maxLen) (h0 : 0 ≤ first) (h1 : first + fs.length ≤ 4611686018427387904) :
    Calls Try.prog 85 #[refV room first a fs.length cap, .int .i64 below] w fun e w' => ∃ a' cap', e = .returned (refV room (first + (refDK first fs.length below : Int)) a' (fs.length - refDK first fs.length below) cap') ∧ StRow w' a' (fs.drop (refDK first fs.length below)) ∧ fs.length - refDK first fs.length below ≤ cap' ∧ cap' ≤ maxLen ∧ a'.map (·.block) = a.map (·.block) ∧ Below w.heap.size w w' := by
  unfold refV
  go_enter Try.func85, Try.ntmps85
  go_wp2_with fail
  obtain ⟨W0, hW0⟩ : ∃ W0, W0 = (w.alloc (.cells #[.int .i64 room, .int .i64 first, .slice a fs.length cap] 71)).alloc (.cells #[.int .i64 0, .int .i64 0, .slice none 0 0] 71) := ⟨_, rfl⟩
  have hX : Blk W0 w.heap.size 71 #[.int .i64 room, .int .i64 first, .slice a fs.length cap] := by rw [hW0]; exact (Blk.new _ _ _).alloc _
  have hY : Blk W0 (w.heap.size + 1) 71 #[.int .i64 0, .int .i64 0, .slice none 0 0] := by
    rw [hW0]
    have := Blk.new (w.alloc (.cells #[.int .i64 room, .int .i64 first, .slice a fs.length cap] 71)) 71 #[.int .i64 0, .int .i64 0, .slice none 0 0]
    simpa using this
  have hB0 : Below w.heap.size w W0 := by rw [hW0]; exact ((Below.refl _ w).alloc (Nat.le_refl _) _).alloc (by simp) _
  go_loopw [] (fun wr => ∃ k : Nat, k ≤ refDK first fs.length below ∧ ∃ a' cap', Blk wr w.heap.size 71 #[.int .i64 room, .int .i64 (first + (k : Int)), .slice a' (fs.length - k) cap'] ∧ Blk wr (w.heap.size + 1) 71 #[.int .i64 0, .int .i64 0, .slice none 0 0] ∧ StRow w a' (fs.drop k) ∧ fs.length - k ≤ cap' ∧ cap' ≤ maxLen ∧ a'.map (·.block) = a.map (·.block) ∧ Below w.heap.size w wr) (fun wr => (first + (fs.length : Int) - firstIn wr w.heap.size).toNat)
  case atStart =>
    refine ⟨0, Nat.zero_le _, a, cap, ?_, ?_, by simpa using h, by simpa using hc, hm, rfl, ?_⟩
    · rw [← hW0]; simpa using hX
    · rw [← hW0]; simpa using hY
    · rw [← hW0]; exact hB0
  case round =>
    clear hX hY hB0 hW0
    obtain ⟨k, hk, a1, cap1, hX, hY, hs, hl, hm1, hab, hb⟩ := hrel
    have HAB := Lib.hid hab
    clear hab
    have d0 : wr.cell? ⟨w.heap.size, 0, none⟩ = some (.int .i64 room) := hX.cell 0
    have d1 : wr.cell? ⟨w.heap.size, 1, none⟩ = some (.int .i64 (first + (k : Int))) := hX.cell 1
    have d2 : wr.cell? ⟨w.heap.size, 2, none⟩ = some (.slice a1 (fs.length - k) cap1) := hX.cell 2
    have k1 := hX.frozen 1
    have k2 := hX.frozen 2
    have y0 := hY.cell 0
    have y1 := hY.cell 1
    have y2 := hY.cell 2
    have z0 := hY.frozen 0
    have z1 := hY.frozen 1
    have z2 := hY.frozen 2
    by_cases c1 : k < fs.length
    · have c1' : (0 : Int) < ((fs.length - k : Nat) : Int) := by omega
      by_cases c2 : first + (k : Int) < below
      · obtain ⟨b, off, rfl, hlt, hr⟩ := hs.2 (by simp; omega)
        have HS := Lib.hid hs
        have HX := Lib.hid hX
        have HY := Lib.hid hY
        have hK := Lib.hid (show k + 1 ≤ refDK first fs.length below by unfold refDK at *; split <;> omega)
        clear hr hs hX hY hk
        go_wp2_with fail
        refine ⟨⟨k + 1, hK.out, if cap1 = 1 then some ⟨b, off, none⟩ else some ⟨b, off + 66, none⟩, cap1 - 1, ?_, ?_, ?_, by omega, by omega, (by split <;> exact HAB.out), ?_⟩, ?_⟩
        · have e1 : first + (k : Int) + 1 = first + ((k + 1 : Nat) : Int) := by omega
          have e2 : fs.length - k - 1 = fs.length - (k + 1) := by omega
          rw [← e1, ← e2]
          exact (HX.out.set_ 2 _).set_ 1 _
        · exact Blk.touch HY.out (((Touch.refl (fun k => k = w.heap.size) _).setCell (.inl rfl) _).setCell (.inl rfl) _) (by omega)
        · by_cases c3 : cap1 = 1
          · rw [show fs.drop (k + 1) = [] from List.eq_nil_of_length_eq_zero (by simp; omega)]
            exact st_nil _
          · rw [if_neg c3]
            have := st_tail HS.out (by simp; omega)
            rw [List.drop_drop] at this
            exact this
        · exact (hb.setCell (p := ⟨w.heap.size, 2, none⟩) (Nat.le_refl _) _).setCell (p := ⟨w.heap.size, 1, none⟩) (Nat.le_refl _) _
        · have h3 := ((HX.out.set_ 2 (Value.slice (if cap1 = 1 then some ⟨b, off, none⟩ else some ⟨b, off + 66, none⟩) (fs.length - k - 1) (cap1 - 1))).set_ 1 (.int .i64 (first + (k : Int) + 1))).cell 1
          have f1 : firstIn wr w.heap.size = first + (k : Int) := by unfold firstIn; rw [d1]
          have h4 : ((wr.setCell ⟨w.heap.size, 2, none⟩ (Value.slice (if cap1 = 1 then some ⟨b, off, none⟩ else some ⟨b, off + 66, none⟩) (fs.length - k - 1) (cap1 - 1))).setCell ⟨w.heap.size, 1, none⟩ (.int .i64 (first + (k : Int) + 1))).cell? ⟨w.heap.size, 1, none⟩ = some (.int .i64 (first + (k : Int) + 1)) := h3
          have f2 := f1
          unfold firstIn at f2 ⊢
          rw [h4, d1]
          show (first + (fs.length : Int) - (first + (k : Int) + 1)).toNat < (first + (fs.length : Int) - (first + (k : Int))).toNat
          omega
      · have hkk := Lib.hid (show k = refDK first fs.length below by unfold refDK at *; split at hk <;> (try split) <;> omega)
        have HY := Lib.hid hY
        have HS := Lib.hid hs
        clear hY hs hk
        go_wp2_with fail
        refine bodyPost_ret (cell_result3 rfl _ _ (w.heap.size + 1) _ _ (((HY.out.set_ 0 _).set_ 1 _).set_ 2 _) (by rfl) (by rfl)) rfl ⟨a1, cap1, by rw [← hkk.out]; rfl, ?_, by rw [← hkk.out]; omega, hm1, HAB.out, ?_⟩
        · rw [← hkk.out]
          exact StRow.below HS.out (((hb.setCell (p := ⟨w.heap.size + 1, 0, none⟩) (by simp) _).setCell (p := ⟨w.heap.size + 1, 1, none⟩) (by simp) _).setCell (p := ⟨w.heap.size + 1, 2, none⟩) (by simp) _)
        · exact ((hb.setCell (p := ⟨w.heap.size + 1, 0, none⟩) (by simp) _).setCell (p := ⟨w.heap.size + 1, 1, none⟩) (by simp) _).setCell (p := ⟨w.heap.size + 1, 2, none⟩) (by simp) _
    · have c1' : ¬ (0 : Int) < ((fs.length - k : Nat) : Int) := by omega
      have hkk := Lib.hid (show k = refDK first fs.length below by unfold refDK at *; split at hk <;> (try split) <;> omega)
      have HY := Lib.hid hY
      have HS := Lib.hid hs
      clear hY hs hk
      go_wp2_with fail
      refine bodyPost_ret (cell_result3 rfl _ _ (w.heap.size + 1) _ _ (((HY.out.set_ 0 _).set_ 1 _).set_ 2 _) (by rfl) (by rfl)) rfl ⟨a1, cap1, by rw [← hkk.out]; rfl, ?_, by rw [← hkk.out]; omega, hm1, HAB.out, ?_⟩
      · rw [← hkk.out]
        exact StRow.below HS.out (((hb.setCell (p := ⟨w.heap.size + 1, 0, none⟩) (by simp) _).setCell (p := ⟨w.heap.size + 1, 1, none⟩) (by simp) _).setCell (p := ⟨w.heap.size + 1, 2, none⟩) (by simp) _)
      · exact ((hb.setCell (p := ⟨w.heap.size + 1, 0, none⟩) (by simp) _).setCell (p := ⟨w.heap.size + 1, 1, none⟩) (by simp) _).setCell (p := ⟨w.heap.size + 1, 2, none⟩) (by simp) _
end Go.Proofs.Ytblnfkhaicjeaaa.Sav
namespace Go.Proofs.Ytblnfkhaicjeaaa.Sav
open Go.RowKit Go.Sort Go.Proofs.Ytblnfkhaicjeaaa.Gm Go.Proofs.Ytblnfkhaicjeaaa.RingE
set_option linter.all false
theorem rat_at (first : Int) (len : Nat) (n : Int) : ratE first len n = atE first len n := by
  unfold ratE atE
  (repeat' split) <;> first | rfl | omega
theorem drop_first (first : Int) (len : Nat) (n : Int) : dropF first len n = first + (refDK first len n : Int) := by
  unfold dropF refDK
  split <;> omega
theorem drop_list (first : Int) (l : List NT) (n : Int) : dropL first l n = l.drop (refDK first l.length n) := by
  unfold dropL refDK
  split
  · rfl
  · rcases Nat.le_total l.length (n - first).toNat with h | h
    · rw [Nat.min_eq_left h, List.drop_eq_nil_of_le h, List.drop_eq_nil_of_le (Nat.le_refl _)]
    · rw [Nat.min_eq_right h]
end Go.Proofs.Ytblnfkhaicjeaaa.Sav
namespace Go.Proofs.Ytblnfkhaicjeaaa.Sav
open Go.RowKit Go.Sort Go.Proofs.Ytblnfkhaicjeaaa.Gm Go.Proofs.Ytblnfkhaicjeaaa.RingE
set_option linter.all false
def tag (f : F) : NT := (f, sumL (stB f))
def refL (room first : Int) (fs : List F) (f : F) : List F := if room < ((fs.take (f 0 - first).toNat ++ [f]).length : Int) then (fs.take (f 0 - first).toNat ++ [f]).drop 1 else fs.take (f 0 - first).toNat ++ [f]
theorem cut_map (first : Int) (fs : List F) (n : Int) (h : n ≤ first + fs.length) : cutL first (fs.map tag) n = (fs.take (n - first).toNat).map tag := by
  unfold cutL
  split
  · rw [List.map_take]
  · rename_i h2
    simp only [List.length_map] at h2
    rw [List.take_of_length_le (by omega)]
theorem save_map (room first : Int) (fs : List F) (f : F) (h : f 0 ≤ first + fs.length) (hr : 1 ≤ room) (hl : (fs.length : Int) ≤ room) : putL room (cutL first (fs.map tag) (f 0)) (tag f) = (refL room first fs f).map tag := by
  rw [cut_map first fs (f 0) h]
  unfold putL refL
  have hk : (fs.take (f 0 - first).toNat).length ≤ fs.length := by simp; omega
  generalize fs.take (f 0 - first).toNat = t at *
  simp only [List.length_map, List.length_append, List.length_singleton]
  by_cases c : (t.length : Int) = room
  · rw [if_pos c, if_pos (by omega)]
    cases t with
    | nil => simp at c; omega
    | cons x t => simp
  · rw [if_neg c, if_neg (by omega)]
    simp
end Go.Proofs.Ytblnfkhaicjeaaa.Sav
