/-
  game.Sum of any state.
-/
import Derived.Test.YtblnfkhaicjeaaaGbytes
namespace Go.Proofs.Ytblnfkhaicjeaaa.Gm
open Go.RowKit Go.Sort Go.Proofs.Ytblnfkhaicjeaaa.Num Go.Proofs.Ytblnfkhaicjeaaa.Byt
set_option linter.all false

def mixS (h b : Int) : Int := IntKind.u32.wrap (bits .xor .u32 h b * 16777619)
def sumL (l : List Int) : Int := l.foldl mixS 2166136261
theorem mixS_in (h b : Int) : 0 ≤ mixS h b ∧ mixS h b < 4294967296 := by simp [mixS, IntKind.wrap, IntKind.bits, IntKind.signed]; omega
theorem foldl_in : ∀ (l : List Int) (h : Int), 0 ≤ h → h < 4294967296 → 0 ≤ l.foldl mixS h ∧ l.foldl mixS h < 4294967296
  | [], h, h0, h1 => ⟨h0, h1⟩
  | b :: r, h, _, _ => foldl_in r _ (mixS_in h b).1 (mixS_in h b).2
theorem sumL_in (l : List Int) : 0 ≤ sumL l ∧ sumL l < 4294967296 := foldl_in l _ (by decide) (by decide)
theorem be8_in (z : Int) : ∀ b ∈ be8 z, 0 ≤ b ∧ b < 256 := by
  intro b hb
  simp [be8, be4] at hb
  omega
theorem be4_in (z : Int) : ∀ b ∈ be4 z, 0 ≤ b ∧ b < 256 := by
  intro b hb
  simp [be4] at hb
  omega
def ByteL (l : List Int) : Prop := ∀ b ∈ l, 0 ≤ b ∧ b < 256
theorem ByteL.app {l m : List Int} (h : ByteL l) (h' : ByteL m) : ByteL (l ++ m) := fun b hb => (List.mem_append.1 hb).elim (h b) (h' b)
theorem runB_in (f : F) (o : Nat) : ∀ k, ByteL (runB f o k)
  | 0 => fun b hb => by cases hb
  | k + 1 => (runB_in f o k).app (be8_in _)
theorem bodiesB_in (f : F) : ∀ i, ByteL (bodiesB f i)
  | 0 => ByteL.app (be8_in _) (be4_in _)
  | i + 1 => (bodiesB_in f i).app (runB_in f _ 7)
theorem shotsB_in (f : F) : ∀ k, ByteL (shotsB f k)
  | 0 => bodiesB_in f 2
  | k + 1 => ((shotsB_in f k).app (fun b hb => by simp [onI] at hb; subst hb; split <;> decide)).app (runB_in f _ 5)
theorem stB_in (f : F) : ByteL (stB f) := ((shotsB_in f 8).app (be8_in _)).app (be8_in _)
theorem sum_take {l : List Int} {i : Nat} (h : i < l.length) : (l.take (i + 1)).foldl mixS 2166136261 = mixS ((l.take i).foldl mixS 2166136261) (nth l i) := by
  have e : l.take (i + 1) = l.take i ++ [nth l i] := by
    rw [List.take_succ_eq_append_getElem h]
    simp [nth, List.getD_eq_getElem?_getD, List.getElem?_eq_getElem h]
  rw [e, List.foldl_append]
  rfl

set_option maxRecDepth 100000 in
set_option maxHeartbeats 4000000 in
theorem sum_any (w : World) (f : F) (hw : Wf f) :
    Calls Try.prog 24 #[stV f] w fun e w' => e = .returned (.int .u32 (sumL (stB f))) ∧ Below w.heap.size w w' := by
  obtain ⟨C, LC⟩ := let_of f
  obtain ⟨W1, hW1⟩ : ∃ W1, W1 = w.alloc (.cells C 33) := ⟨_, rfl⟩
  have hS : Blk W1 w.heap.size 33 C := by rw [hW1]; exact Blk.new _ _ _
  have hB : Below w.heap.size w W1 := by rw [hW1]; exact (Below.refl _ w).alloc (Nat.le_refl _) _
  have hif := LC.info
  have p := Lib.hid (bytes_any W1 f hw)
  unfold stV at p ⊢
  rw [← LC.eq] at p ⊢
  have hin := Lib.hid (stB_in f)
  have hlen := stB_len f
  obtain ⟨L, hL⟩ : ∃ L, stB f = L := ⟨_, rfl⟩
  rw [hL] at p hin hlen ⊢
  have HLEN := Lib.hid hlen
  have hl1 : L.length ≤ 1000 := by omega
  clear hw LC hL hlen
  go_enter Try.func24, Try.ntmps24
  go_upto_region 2 with fail
  rw [← hW1]
  clear hW1
  go_wp2_with (refine wpList_load_blk (by rfl) 33 _ (by rfl) w.heap.size (by rfl) _ C _ hS Try.underlying33 (by rfl) hif ?_)
  refine p.out.mono ?_
  rintro e w2 ⟨v, rfl, R⟩
  have hBB := hB.trans (R.below.mono hB.size)
  rcases On.form R.out with ⟨hv, hn, _⟩ | ⟨g, cap, rfl, hnc, hcm, how, hgl, hcell, hfr⟩
  · exact absurd hn (by have := HLEN.out; omega)
  · have HC := Lib.hid hcell
    clear p R hcell hfr how hS hB
    go_wp2_with fail
    go_loopw [3, 9] (fun hv iv wr => ∃ i : Nat, i ≤ L.length ∧ iv = .int .i64 i ∧ hv = .int .u32 ((L.take i).foldl mixS 2166136261) ∧ wr = w2) (fun _ iv _ => L.length - (intOf iv).toNat)
    case atStart => exact ⟨0, by omega, rfl, rfl, by first | trivial | rfl⟩
    case round =>
      obtain ⟨i, hi, rfl, rfl, rfl⟩ := hrel
      by_cases hlt : i < L.length
      · have i0 : (i : Int) < (L.length : Int) := by omega
        have i1 : (0 : Int) ≤ (i : Int) := by omega
        have HS := Lib.hid (sum_take hlt)
        have hnth : L[i]? = some (nth L i) := by simp [nth, List.getD_eq_getElem?_getD, List.getElem?_eq_getElem hlt]
        have hb := hin.out (nth L i) (List.mem_of_getElem? hnth)
        have ck := HC.out i (.int .u8 (nth L i)) (by unfold ub; rw [List.getElem?_map, hnth]; rfl)
        generalize (L.take i).foldl mixS 2166136261 = h at *
        generalize nth L i = b at *
        have hwb : IntKind.u32.wrap b = b := IntWalk.u32_in _ (by omega)
        clear hnth
        go_wp2_with fail
        go_roundw
        case rel => exact ⟨i + 1, by omega, by go_num, by rw [HS.out]; rfl, by first | trivial | rfl⟩
        case measure => simp [intOf]; omega
      · obtain rfl : i = L.length := by omega
        have HP := Lib.hid (show L.take L.length = L from List.take_length)
        go_wp2_with fail
        go_ret
        exact ⟨ret_int (by rw [HP.out]; rfl), hBB⟩
end Go.Proofs.Ytblnfkhaicjeaaa.Gm
