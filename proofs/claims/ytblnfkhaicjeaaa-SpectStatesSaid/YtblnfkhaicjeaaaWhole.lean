/-
  A state's load in a drawn region, whole: by what the block holds.
-/
import Derived.Test.YtblnfkhaicjeaaaRbytes
import Derived.Lib.QuietBelow
namespace Go.Proofs.Ytblnfkhaicjeaaa.Gm
open Go.RowKit Go.Sort Go.Proofs.Ytblnfkhaicjeaaa.Num Go.Proofs.Ytblnfkhaicjeaaa.Byt
set_option linter.all false

def cellsAt (w : World) (g : Nat) : Array Value := match w.heap[g]? with
  | some (.cells cs _ (0, 0)) => cs
  | _ => #[]
theorem cellsAt_blk {w : World} {g : Nat} {t : TypeId} {cs : Array Value} (h : Blk w g t cs) : cellsAt w g = cs := by
  unfold Blk at h
  unfold cellsAt
  rw [h]
  rfl
theorem cellsAt_drew (w : World) (g : Nat) : cellsAt w.drew g = cellsAt w g := rfl
theorem cellsAt_inv {w : World} {g : Nat} (h : 0 < (cellsAt w g).size) : ∃ t, w.heap[g]? = some (.cells (cellsAt w g) t (0, 0)) := by
  revert h
  unfold cellsAt
  split
  · rename_i hg
    intro _
    exact ⟨_, hg⟩
  · intro h; simp at h
theorem run33 (w : World) (g : Nat) (h : (cellsAt w g).size = 66) : (Instr.loadAt 33 (.pointer (some ⟨g, 0, none⟩))).run Try.prog w = .ok (.agg (cellsAt w g)) w := by
  obtain ⟨t, hg⟩ := cellsAt_inv (w := w) (g := g) (by omega)
  simp only [Instr.loadAt, Instr.sureAddr, Sem.run_bind, Sem.run_pure, Result.andThen_ok, run_loadVar_row w g t 33 (cellsAt w g) (0, 0) _ hg Try.underlying33 rfl (by rw [h]; exact infoSt)]

/-- A state's load, as the walk meets it: by what the block holds. -/
def loadR (P : Program) (t : TypeId) (v : Value) (w : World) : Result Next := (Sem.run P (Instr.loadAt t v) w).andThen fun u w' => .ok (.value u) w'
theorem exec33 (ev : Operand → Value) (dst : Option Tmp) (x : Operand) (ty : TypeId) (pos : String) (after : Array Edge) (guard : Option (Nat × Bool)) (w : World) :
    (execOp ev { dst := dst, op := Op.load 33 x, type := ty, pos := pos, after := after, guard := guard }).run Try.prog w = loadR Try.prog 33 (ev x) w := by
  unfold execOp loadR
  simp only [Sem.run_bind, Sem.run_pure]
theorem loadR_at (w : World) (g : Nat) (h : (cellsAt w g).size = 66) : loadR Try.prog 33 (.pointer (some ⟨g, 0, none⟩)) w = .ok (.value (.agg (cellsAt w g))) w := by
  unfold loadR
  rw [run33 w g h]
  rfl

set_option maxRecDepth 100000 in
set_option maxHeartbeats 4000000 in
theorem rsum_any (w : World) (f : F) (hw : Wf f) :
    Calls Try.prog 25 #[stV f] w fun e w' => e = .returned (.int .u32 (sumL (stB f))) ∧ Below w.heap.size w w' := by
  obtain ⟨C, LC⟩ := let_of f
  obtain ⟨W1, hW1⟩ : ∃ W1, W1 = w.alloc (.cells C 33) := ⟨_, rfl⟩
  have hS : Blk W1 w.heap.size 33 C := by rw [hW1]; exact Blk.new _ _ _
  have hB : Below w.heap.size w W1 := by rw [hW1]; exact (Below.refl _ w).alloc (Nat.le_refl _) _
  have hif := LC.info
  have p := Lib.hid (rstB_any W1 f hw)
  unfold stV at p ⊢
  rw [← LC.eq] at p ⊢
  have hin := Lib.hid (stB_in f)
  have hlen := stB_len f
  obtain ⟨L, hL⟩ : ∃ L, stB f = L := ⟨_, rfl⟩
  rw [hL] at p hin hlen ⊢
  have HLEN := Lib.hid hlen
  have hl1 : L.length ≤ 1000 := by omega
  clear hw LC hL hlen
  go_enter Try.func25, Try.ntmps25
  go_upto_region 2 with fail
  rw [← hW1]
  clear hW1
  go_wp2_with (refine wpList_load_blk (by rfl) 33 _ (by rfl) w.heap.size (by rfl) _ C _ hS Try.underlying33 (by rfl) hif ?_)
  refine p.out.mono ?_
  rintro e w2 ⟨v, rfl, R⟩
  have hBB := hB.trans (R.below.mono hB.size)
  rcases On.form R.out with ⟨hv, hn, _⟩ | ⟨g, cap, rfl, hnc, hcm, how, hgl, hcell, hfr⟩
  · exact absurd hn (by have := HLEN.out; omega)
  · have HC := Lib.hid hcell
    clear p R hcell hfr how hS hB
    go_wp2_with fail
    go_loopw [3, 5] (fun hv iv wr => ∃ i : Nat, i ≤ L.length ∧ iv = .int .i64 i ∧ hv = .int .u32 ((L.take i).foldl mixS 2166136261) ∧ wr = w2) (fun _ iv _ => L.length - (intOf iv).toNat)
    case atStart => exact ⟨0, by omega, rfl, rfl, by first | trivial | rfl⟩
    case round =>
      obtain ⟨i, hi, rfl, rfl, rfl⟩ := hrel
      by_cases hlt : i < L.length
      · have i0 : (i : Int) < (L.length : Int) := by omega
        have i1 : (0 : Int) ≤ (i : Int) := by omega
        have HS := Lib.hid (sum_take hlt)
        have hnth : L[i]? = some (nth L i) := by simp [nth, List.getD_eq_getElem?_getD, List.getElem?_eq_getElem hlt]
        have hb := hin.out (nth L i) (List.mem_of_getElem? hnth)
        have ck := HC.out i (.int .u8 (nth L i)) (by unfold ub; rw [List.getElem?_map, hnth]; rfl)
        generalize (L.take i).foldl mixS 2166136261 = h at *
        generalize nth L i = b at *
        have hwb : IntKind.u32.wrap b = b := IntWalk.u32_in _ (by omega)
        clear hnth
        go_wp2_with fail
        go_roundw
        case rel => exact ⟨i + 1, by omega, by go_num, by rw [HS.out]; rfl, by first | trivial | rfl⟩
        case measure => simp [intOf]; omega
      · obtain rfl : i = L.length := by omega
        have HP := Lib.hid (show L.take L.length = L from List.take_length)
        go_wp2_with fail
        go_ret
        exact ⟨ret_int (by rw [HP.out]; rfl), hBB⟩
end Go.Proofs.Ytblnfkhaicjeaaa.Gm
