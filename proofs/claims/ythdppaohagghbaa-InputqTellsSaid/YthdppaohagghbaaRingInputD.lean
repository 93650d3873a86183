/-
  The walks of package ring at element type backstay/api.Input: All and Back, as ranges over functions. Conditions: the ring lies in blocks that a round keeps.
-/
import Derived.Test.YthdppaohagghbaaRingInput
import Derived.RangeFuncNested
import Derived.RangeFuncBound
import Derived.RangeFuncCalls
import Derived.RangeFuncLeaves
import Derived.RangeFuncFrom
import Derived.RangeFuncBox
import Derived.Shelf.Abstract
import Derived.Shelf.RegionOpen
import Derived.OwnWalkIn
import Derived.TacticsInMore
import Derived.LoopNIn
import Derived.LoopIn
namespace Go.Proofs.Ythdppaohagghbaa.RingInput
open Go.RowKit Go.Shelf
attribute [local go_sem] Oper.semAt_some

/-- What has come when k rounds are over. -/
def upto {α : Type} (f : Nat → α) (k : Nat) : List α := (List.range k).map f
theorem upto_succ {α : Type} (f : Nat → α) (k : Nat) : upto f (k + 1) = upto f k ++ [f k] := by simp [upto, List.range_succ]
theorem upto_length {α : Type} (f : Nat → α) (k : Nat) : (upto f k).length = k := by simp [upto]
def encs (x : Int × Int) : Array Value := #[.int .i64 x.1, .int .u16 x.2]
def allF (first : Int) (l : List Int) (j : Nat) : Int × Int := (first + (j : Int), nth l j)
def backF (first : Int) (l : List Int) (j : Nat) : Int × Int := (first + ((l.length - 1 - j : Nat) : Int), nth l (l.length - 1 - j))

/-- These blocks are kept. -/
def KeepB (K : Nat → Prop) (A B : World) : Prop := ∀ k, K k → B.heap[k]? = A.heap[k]?
theorem keepB_t {K : Nat → Prop} {A B C : World} (h : KeepB K A B) (h' : KeepB K B C) : KeepB K A C := fun k hk => (h' k hk).trans (h k hk)
theorem keepB_b {K : Nat → Prop} {m : Nat} (hK : ∀ k, K k → k < m) (W : World) (l : Nat) (o o' : Obj) (hl : m ≤ l) (_ : W.heap[l]? = some o) (_ : o.isCells = false) (_ : o.isWalk = false) : KeepB K W (W.putObj l o') :=
  fun k hk => World.putObj_heap_other (by have := hK k hk; omega)
theorem keepB_refl {K : Nat → Prop} (A : World) : KeepB K A A := fun _ _ => rfl
theorem At.keep {K : Nat → Prop} {w w' : World} {r : Nat} {room first : Int} {sv : Value} {l : List Int} (h : At w r room first sv l) (hb : KeepB K w w') (hB : ∀ k, fp r sv k → K k) : At w' r room first sv l :=
  ⟨(hb r (hB r (.inl rfl))).trans h.1, h.2.of_heap fun g hg => hb g (hB g (.inr hg))⟩
theorem cell_keep {K : Nat → Prop} {w w' : World} {b o : Nat} {v : Value} (h : w.cell? ⟨b, o, none⟩ = some v) (hb : KeepB K w w') (hK : K b) : w'.cell? ⟨b, o, none⟩ = some v :=
  (World.cell?_of_block (w := w) (a := ⟨b, o, none⟩) (hb b hK)).trans h

set_option maxRecDepth 100000 in
set_option maxHeartbeats 1000000 in
theorem all_any (w : World) (r : Nat) :
    Calls Try.prog 82 #[.pointer (some ⟨r, 0, none⟩)] w fun e w' => e = .returned (.func (.func 138) #[] #[.pointer (some ⟨w.heap.size, 0, none⟩)]) ∧ w.alloc (.cells #[.pointer (some ⟨r, 0, none⟩)] 117) = w' := by
  have hmf : ∀ (fn : Fn) (first cap : Array Value) (w : World), (Instr.makeFunc fn first cap).run Try.prog w = .ok (.func fn first cap) w := fun _ _ _ _ => rfl
  go_enter Try.func82, Try.ntmps82
  go_wp2
  go_ret
  exact ⟨rfl, rfl⟩

set_option maxRecDepth 100000 in
set_option maxHeartbeats 2000000 in
theorem all1_in (F : Fence) (n : Nat) (hf : F.fn 138) (hro : F.round = none) (hn : 1 ≤ n) (lo Bx r : Nat) (K : Nat → Prop) (room first : Int) (sv : Value) (l : List Int) (J Jx : List (Int × Int) → World → Prop)
    (hY : ∀ pre x W1, J pre W1 → pre.length < l.length → YieldAt F (n - 1) Try.prog lo (encs x) W1 fun e W' =>
      (e = .returned (.bool true) ∧ J (pre ++ [x]) W' ∧ KeepB K W1 W') ∨ (e = .returned (.bool false) ∧ Jx (pre ++ [x]) W'))
    (W : World) (hc : W.cell? ⟨Bx, 0, none⟩ = some (.pointer (some ⟨r, 0, none⟩))) (hA : At W r room first sv l) (hfp : ∀ k, fp r sv k → K k) (hBx : K Bx) (h0 : 0 ≤ first) (h1 : first + l.length ≤ 4611686018427387904) (hJ0 : J [] W) :
    CallsIn F n Try.prog 138 #[.func (.yield lo) #[] #[], .pointer (some ⟨Bx, 0, none⟩)] W fun e W' => (∃ v, e = .returned v) ∧
      ((∃ ys, ys = upto (allF first l) l.length ∧ J ys W') ∨ (∃ pre, (∃ k, k ≤ l.length ∧ pre = upto (allF first l) k) ∧ Jx pre W')) := by
  obtain ⟨⟨c0, c1, c2⟩, f0, f1, f2⟩ := hA.cells
  obtain ⟨a, c, rfl, hlc, hcm, hsv⟩ := hA.slc
  unfold maxLen at hcm
  refine callsIn_of_wp Try.func138 rfl hf ?_ hro
  simp only [Try.ntmps138, List.size_toArray, List.length_cons, List.length_nil, Nat.reduceAdd, Nat.reduceSub, Array.replicate_succ, Array.replicate_zero, List.push_toArray, List.append_toArray, List.nil_append, List.cons_append]
  gi_wp2
  gi_loopw [10] (fun i wr => ∃ k : Nat, k ≤ l.length ∧ i = .int .i64 k ∧ J (upto (allF first l) k) wr ∧ KeepB K W wr) (fun i _ => l.length - (intOf i).toNat)
  case atStart => exact ⟨0, Nat.zero_le _, rfl, hJ0, keepB_refl _⟩
  case round =>
    obtain ⟨k, hk, rfl, hJs, hkp⟩ := hrel
    have hA2 := hA.keep hkp hfp
    obtain ⟨⟨d0, d1, d2⟩, _⟩ := hA2.cells
    have hcb := cell_keep hc hkp hBx
    by_cases hlt : k < l.length
    · obtain ⟨g, rfl, hgr, hcs⟩ := hsv (by omega)
      have hcj := cell_keep (hcs k hlt).1 hkp (hfp g (.inr rfl))
      have hi0 : (0 : Int) ≤ (k : Int) := by omega
      have hi1 : (k : Int) < (l.length : Int) := by omega
      have hs1 : first + (k : Int) ≤ 4611686018427387904 := by omega
      obtain ⟨fn, tmps, assign, body, hy, hR⟩ := hY _ (allF first l k) wr hJs (by rw [upto_length]; exact hlt)
      dsimp only [encs, allF] at hy
      clear hsv hcs hJs hY hc c0 c1 c2 f0 f1 f2
      gi_wp2
      refine hR.mono ?_
      rintro e W3 (⟨rfl, hJ3, hk3⟩ | ⟨rfl, hJx3⟩)
      · gi_wp2
        go_roundw
        case rel => exact ⟨k + 1, by omega, by simp, by rw [upto_succ]; exact hJ3, keepB_t hkp hk3⟩
        case measure => simp [intOf]; omega
      · gi_wp2
        refine bodyPost_ret (results_none rfl _ _ _) rfl ?_
        exact ⟨⟨_, rfl⟩, .inr ⟨_, ⟨k + 1, by omega, (upto_succ _ _).symm⟩, hJx3⟩⟩
    · obtain rfl : k = l.length := by omega
      clear hsv
      gi_wp2
      go_end0
      exact ⟨⟨_, rfl⟩, .inl ⟨_, rfl, hJs⟩⟩

theorem all_stops (F : Fence) (n : Nat) (hf : F.fn 138) (hro : F.round = none) (hn : 1 ≤ n) (Bx r : Nat) (K : Nat → Prop) (room first : Int) (sv : Value) (l : List Int) (w : World) (hK : ∀ k, K k → k < w.heap.size)
    (hc : w.cell? ⟨Bx, 0, none⟩ = some (.pointer (some ⟨r, 0, none⟩))) (hA : At w r room first sv l) (hfp : ∀ k, fp r sv k → K k) (hBx : K Bx) (h0 : 0 ≤ first) (h1 : first + l.length ≤ 4611686018427387904) :
    SeqStopsK F n Try.prog 138 #[.pointer (some ⟨Bx, 0, none⟩)] encs (KeepB K) (fun ys => ys = upto (allF first l) l.length) (fun pre => ∃ k, k ≤ l.length ∧ pre = upto (allF first l) k) l.length w := fun lo J Jx W hW _ _ hY hJ0 => by
  have hkb : KeepB K w W := fun k hk => hW.block k (hK k hk)
  exact all1_in F n hf hro hn lo Bx r K room first sv l J Jx hY W (cell_keep hc hkb hBx) (hA.keep hkb hfp) hfp hBx h0 h1 hJ0

end Go.Proofs.Ythdppaohagghbaa.RingInput
