/-
  The walk of package ring's All at element type tsync.note, as a range over a function. Conditions: the ring lies in blocks that a round keeps.
-/
import Derived.Test.YthdppaohagghbaaRingNote
import Derived.RangeFuncNested
import Derived.RangeFuncBound
import Derived.RangeFuncCalls
import Derived.RangeFuncLeaves
import Derived.RangeFuncFrom
import Derived.RangeFuncBox
import Derived.Shelf.Abstract
import Derived.Shelf.RegionOpen
import Derived.OwnWalkIn
import Derived.TacticsInMore
import Derived.LoopNIn
import Derived.LoopIn
namespace Go.Proofs.Ythdppaohagghbaa.RingNote
open Go.RowKit Go.Shelf
set_option linter.all false
attribute [local go_sem] Oper.semAt_some

/-- What has come when k rounds are over. -/
def upto {α : Type} (f : Nat → α) (k : Nat) : List α := (List.range k).map f
theorem upto_succ {α : Type} (f : Nat → α) (k : Nat) : upto f (k + 1) = upto f k ++ [f k] := by simp [upto, List.range_succ]
theorem upto_length {α : Type} (f : Nat → α) (k : Nat) : (upto f k).length = k := by simp [upto]
def encs (x : Int × NT) : Array Value := #[.int .i64 x.1, .agg #[.int .i64 x.2.1, .int .i64 x.2.2]]
def ntAt (l : List NT) (j : Nat) : NT := l.getD j (0, 0)
theorem ntAt_some {l : List NT} {j : Nat} (h : j < l.length) : l[j]? = some (ntAt l j) := by simp [ntAt, List.getD, h]
def allF (first : Int) (l : List NT) (j : Nat) : Int × NT := (first + (j : Int), ntAt l j)

/-- These blocks are kept. -/
def KeepB (K : Nat → Prop) (A B : World) : Prop := ∀ k, K k → B.heap[k]? = A.heap[k]?
theorem keepB_t {K : Nat → Prop} {A B C : World} (h : KeepB K A B) (h' : KeepB K B C) : KeepB K A C := fun k hk => (h' k hk).trans (h k hk)
theorem keepB_b {K : Nat → Prop} {m : Nat} (hK : ∀ k, K k → k < m) (W : World) (l : Nat) (o o' : Obj) (hl : m ≤ l) (_ : W.heap[l]? = some o) (_ : o.isCells = false) (_ : o.isWalk = false) : KeepB K W (W.putObj l o') :=
  fun k hk => World.putObj_heap_other (by have := hK k hk; omega)
theorem keepB_refl {K : Nat → Prop} (A : World) : KeepB K A A := fun _ _ => rfl
theorem At.keep {K : Nat → Prop} {w w' : World} {r : Nat} {room first : Int} {sv : Value} {l : List NT} (h : At w r room first sv l) (hb : KeepB K w w') (hB : ∀ k, fp r sv k → K k) : At w' r room first sv l :=
  ⟨(hb r (hB r (.inl rfl))).trans h.1, h.2.of_heap fun g hg => hb g (hB g (.inr hg))⟩
theorem cell_keep {K : Nat → Prop} {w w' : World} {b o : Nat} {v : Value} (h : w.cell? ⟨b, o, none⟩ = some v) (hb : KeepB K w w') (hK : K b) : w'.cell? ⟨b, o, none⟩ = some v :=
  (World.cell?_of_block (w := w) (a := ⟨b, o, none⟩) (hb b hK)).trans h

set_option maxRecDepth 100000 in
set_option maxHeartbeats 1000000 in
theorem all_any (w : World) (r : Nat) :
    Calls Try.prog 141 #[.pointer (some ⟨r, 0, none⟩)] w fun e w' => e = .returned (.func (.func 166) #[] #[.pointer (some ⟨w.heap.size, 0, none⟩)]) ∧ w.alloc (.cells #[.pointer (some ⟨r, 0, none⟩)] 131) = w' := by
  have hmf : ∀ (fn : Fn) (first cap : Array Value) (w : World), (Instr.makeFunc fn first cap).run Try.prog w = .ok (.func fn first cap) w := fun _ _ _ _ => rfl
  go_enter Try.func141, Try.ntmps141
  go_wp2
  go_ret
  exact ⟨rfl, rfl⟩

def AllPost (K : Nat → Prop) (J Jx : List (Int × NT) → World → Prop) (xs : List (Int × NT)) (W1 : World) (b : Bool) (W' : World) : Prop := if b = true then J xs W' ∧ KeepB K W1 W' else Jx xs W'

set_option maxRecDepth 100000 in
set_option maxHeartbeats 8000000 in
theorem all1_in (n : Nat) (hn : 1 ≤ n) (lo Bx r : Nat) (K : Nat → Prop) (room first : Int) (sv : Value) (l : List NT) (J Jx : List (Int × NT) → World → Prop)
    (hY : ∀ pre x W1, J pre W1 → pre.length < l.length → YieldAt Fence.wide (n - 1) Try.prog lo (encs x) W1 fun e W' =>
      (e = .returned (.bool true) ∧ J (pre ++ [x]) W' ∧ KeepB K W1 W') ∨ (e = .returned (.bool false) ∧ Jx (pre ++ [x]) W'))
    (W : World) (hKW : ∀ k, K k → k < W.heap.size) (hc : W.cell? ⟨Bx, 0, none⟩ = some (.pointer (some ⟨r, 0, none⟩))) (hA : At W r room first sv l) (hfp : ∀ k, fp r sv k → K k) (hBx : K Bx) (h0 : 0 ≤ first) (h1 : first + l.length ≤ 4611686018427387904) (hJ0 : J [] W)
    (hJd : ∀ xs W o, J xs W → J xs (W.alloc o).drew) :
    CallsIn Fence.wide n Try.prog 166 #[.func (.yield lo) #[] #[], .pointer (some ⟨Bx, 0, none⟩)] W fun e W' => (∃ v, e = .returned v) ∧
      ((∃ ys, ys = upto (allF first l) l.length ∧ J ys W') ∨ (∃ pre, (∃ k, k ≤ l.length ∧ pre = upto (allF first l) k) ∧ Jx pre W')) := by
  obtain ⟨⟨c0, c1, c2⟩, f0, f1, f2⟩ := hA.cells
  obtain ⟨a, c, rfl, hlc, hcm, hsv⟩ := hA.slc
  unfold maxLen at hcm
  refine callsIn_of_wp Try.func166 rfl trivial ?_ rfl
  simp only [Try.ntmps166, List.size_toArray, List.length_cons, List.length_nil, Nat.reduceAdd, Nat.reduceSub, Array.replicate_succ, Array.replicate_zero, List.push_toArray, List.append_toArray, List.nil_append, List.cons_append]
  gi_wp2
  gi_loopw [10] (fun i wr => ∃ k : Nat, k ≤ l.length ∧ i = .int .i64 k ∧ J (upto (allF first l) k) wr ∧ KeepB K W wr) (fun i _ => l.length - (intOf i).toNat)
  case atStart => exact ⟨0, Nat.zero_le _, rfl, hJ0, keepB_refl _⟩
  case round =>
    obtain ⟨k, hk, rfl, hJs, hkp⟩ := hrel
    have hA2 := hA.keep hkp hfp
    obtain ⟨⟨d0, d1, d2⟩, _⟩ := hA2.cells
    have hcb := cell_keep hc hkp hBx
    by_cases hlt : k < l.length
    · obtain ⟨g, rfl, hgr, hcs⟩ := hsv (by omega)
      obtain ⟨q1, q2⟩ := hcs k _ (ntAt_some hlt)
      have hcj1 := cell_keep q1 hkp (hfp g (.inr rfl))
      have hcj2 := cell_keep q2 hkp (hfp g (.inr rfl))
      have hblt : ∀ b, K b → b < wr.heap.size := fun b hb => by
        have h2 := hkp b hb
        have h3 := hKW b hb
        exact (Array.getElem?_eq_some_iff.1 (h2.trans (Array.getElem?_eq_getElem h3))).1
      have nx := hblt Bx hBx
      have nr := hblt r (hfp r (.inl rfl))
      have hi0 : (0 : Int) ≤ (k : Int) := by omega
      have hi1 : (k : Int) < (l.length : Int) := by omega
      have hs1 : first + (k : Int) ≤ 4611686018427387904 := by omega
      obtain ⟨va, vb, hvab⟩ : ∃ va vb, ntAt l k = (va, vb) := ⟨_, _, rfl⟩
      have hx : allF first l k = (first + (k : Int), (va, vb)) := by unfold allF; rw [hvab]
      rw [hvab] at hcj1 hcj2
      dsimp only at hcj1 hcj2
      have hbx : ∀ b o, b < wr.heap.size → (wr.alloc (.cells #[.int .i64 va, .int .i64 vb] 135)).cell? ⟨b, o, none⟩ = wr.cell? ⟨b, o, none⟩ := fun b o hb => World.cell?_of_block (a := ⟨b, o, none⟩) (heap_old wr _ hb)
      have m0 := (hbx Bx 0 nx).trans hcb
      have m1 := (hbx r 1 nr).trans d1
      have hyk := hY _ (allF first l k) (wr.alloc (.cells #[.int .i64 va, .int .i64 vb] 135)).drew (hJd _ _ _ hJs) (by rw [upto_length]; exact hlt)
      obtain ⟨fn, tmps, assign, body, hy, hR⟩ := hyk
      rw [hx] at hy hR
      have HX := Lib.hid hx
      dsimp only [encs] at hy
      have hkn : KeepB K wr (wr.alloc (.cells #[.int .i64 va, .int .i64 vb] 135)).drew := fun b hb => heap_old wr _ (hblt b hb)
      have HKN := Lib.hid hkn
      clear hsv hcs hJs hY hc c0 c1 c2 f0 f1 f2 q1 q2 hvab hx hbx hkn hblt
      have hw1 : IntKind.i64.wrap (first + (k : Int)) = first + (k : Int) := IntWalk.i64_in _ (by omega)
      have hR2 := Lib.hid (hR.mono (R' := fun e W' => ∃ b, e = .returned (.bool b) ∧ AllPost K J Jx (upto (allF first l) k ++ [(first + (k : Int), (va, vb))]) (wr.alloc (.cells #[.int .i64 va, .int .i64 vb] 135)).drew b W') (fun e W' h => by
        rcases h with ⟨rfl, h⟩ | ⟨rfl, h⟩
        · exact ⟨true, rfl, by simp [AllPost]; exact h⟩
        · exact ⟨false, rfl, by simp [AllPost]; exact h⟩))
      have hmx : Try.prog.follows .mixedOrders = true := by kernel_rfl
      clear hR hfp hA hA2 hBx hgr hJd hKW
      gi_wp2
      gi_region_with_o (refine hR2.out.mono ?_; rintro e W3 ⟨b, rfl, hp⟩)
      all_goals
        clear hw1
        cases b
        · gi_wp2
          refine bodyPost_ret (results_none rfl _ _ _) rfl ?_
          exact ⟨⟨_, rfl⟩, .inr ⟨_, ⟨k + 1, by omega, (upto_succ _ _).symm⟩, by rw [HX.out]; simpa [AllPost] using hp⟩⟩
        · have hp2 : J (upto (allF first l) k ++ [(first + (k : Int), (va, vb))]) W3 ∧ KeepB K (wr.alloc (.cells #[.int .i64 va, .int .i64 vb] 135)).drew W3 := by simpa [AllPost] using hp
          gi_wp2
          go_roundw
          case rel => exact ⟨k + 1, by omega, by simp, by rw [upto_succ, HX.out]; exact hp2.1, keepB_t hkp (keepB_t HKN.out hp2.2)⟩
          case measure => simp [intOf] <;> (try omega)
    · obtain rfl : k = l.length := by omega
      clear hsv
      gi_wp2
      go_end0
      exact ⟨⟨_, rfl⟩, .inl ⟨_, rfl, hJs⟩⟩

theorem all_stops (n : Nat) (hn : 1 ≤ n) (Bx r : Nat) (K : Nat → Prop) (room first : Int) (sv : Value) (l : List NT) (w : World) (hK : ∀ k, K k → k < w.heap.size)
    (hc : w.cell? ⟨Bx, 0, none⟩ = some (.pointer (some ⟨r, 0, none⟩))) (hA : At w r room first sv l) (hfp : ∀ k, fp r sv k → K k) (hBx : K Bx) (h0 : 0 ≤ first) (h1 : first + l.length ≤ 4611686018427387904) :
    SeqStopsK Fence.wide n Try.prog 166 #[.pointer (some ⟨Bx, 0, none⟩)] encs (KeepB K) (fun ys => ys = upto (allF first l) l.length) (fun pre => ∃ k, k ≤ l.length ∧ pre = upto (allF first l) k) l.length w := fun lo J Jx W hW hJ _ hY hJ0 => by
  have hkb : KeepB K w W := fun k hk => hW.block k (hK k hk)
  exact all1_in n hn lo Bx r K room first sv l J Jx hY W (fun k hk => Nat.lt_of_lt_of_le (hK k hk) hW.size) (cell_keep hc hkb hBx) (hA.keep hkb hfp) hfp hBx h0 h1 hJ0
    (fun xs W2 o h => hJ xs W2 _ none h ⟨rfl, rfl, rfl, by simp, fun k hk _ => heap_old W2 o hk⟩ (fun r e => by cases e))
end Go.Proofs.Ythdppaohagghbaa.RingNote
