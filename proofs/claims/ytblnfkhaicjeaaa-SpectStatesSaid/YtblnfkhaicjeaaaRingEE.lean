/-
  The walks of package ring at element type saved.entry: Back, as a range over a function. Conditions: the ring lies in blocks that a round keeps.
-/
import Derived.Test.YtblnfkhaicjeaaaRingED
import Derived.RangeFuncNested
import Derived.RangeFuncBound
import Derived.RangeFuncCalls
import Derived.RangeFuncLeaves
import Derived.RangeFuncFrom
import Derived.RangeFuncBox
import Derived.Shelf.Abstract
import Derived.Shelf.RegionOpen
import Derived.OwnWalkIn
import Derived.TacticsInMore
import Derived.LoopNIn
import Derived.LoopIn
namespace Go.Proofs.Ytblnfkhaicjeaaa.RingE
open Go.RowKit Go.Shelf Go.Proofs.Ytblnfkhaicjeaaa.Gm
set_option linter.all false
/-- A load of an entry, shut: in a walk inside a fence the operation is opened to this. -/
def loadE (v : Value) : Sem Value := Instr.loadAt 149 v
theorem loadAt_E (v : Value) : Instr.loadAt 149 v = loadE v := rfl
def loadJ (w : World) (r : Result Value) : Option (List Value) → Result Value
  | some L => .ok (.agg L.toArray) w
  | none => r
theorem loadJ_none (w : World) (r : Result Value) : loadJ w r none = r := rfl
theorem loadJ_some (w : World) (r : Result Value) (L : List Value) : loadJ w r (some L) = .ok (.agg L.toArray) w := rfl
def loadE0 (P : Program) (v : Value) (w : World) : Result Value := Sem.run P (Instr.loadAt 149 v) w
theorem run_loadE (w : World) (g o : Nat) : Sem.run Try.prog (loadE (.pointer (some ⟨g, o, none⟩))) w = loadJ w (loadE0 Try.prog (.pointer (some ⟨g, o, none⟩)) w) (rowIn w g o 67) := by
  cases h : rowIn w g o 67 with
  | none => rw [loadJ_none]; unfold loadE0 loadE; exact Eq.refl _
  | some L =>
    obtain ⟨hr, hl⟩ := of_rowIn h
    rw [loadJ_some]
    unfold loadE
    exact run_loadAt_mid w g o 149 L _ hr Try.underlying149 rfl (by rw [hl]; exact infoE)
attribute [local go_sem] Oper.semAt_some
attribute [local go_sem ↓] loadAt_E
attribute [local go_sem] run_loadE loadJ_some rowIn_drew

/-- What has come when k rounds are over. -/
def upto {α : Type} (f : Nat → α) (k : Nat) : List α := (List.range k).map f
theorem upto_succ {α : Type} (f : Nat → α) (k : Nat) : upto f (k + 1) = upto f k ++ [f k] := by simp [upto, List.range_succ]
theorem upto_length {α : Type} (f : Nat → α) (k : Nat) : (upto f k).length = k := by simp [upto]
def encs (x : Int × NT) : Array Value := #[.int .i64 x.1, .agg (cs x.2).toArray]
def ntAt (l : List NT) (j : Nat) : NT := l.getD j none0
theorem ntAt_some {l : List NT} {j : Nat} (h : j < l.length) : l[j]? = some (ntAt l j) := by simp [ntAt, List.getD, h]
def backF (first : Int) (l : List NT) (j : Nat) : Int × NT := (first + ((l.length - 1 - j : Nat) : Int), ntAt l (l.length - 1 - j))

/-- These blocks are kept. -/
def KeepB (K : Nat → Prop) (A B : World) : Prop := ∀ k, K k → B.heap[k]? = A.heap[k]?
theorem keepB_t {K : Nat → Prop} {A B C : World} (h : KeepB K A B) (h' : KeepB K B C) : KeepB K A C := fun k hk => (h' k hk).trans (h k hk)
theorem keepB_b {K : Nat → Prop} {m : Nat} (hK : ∀ k, K k → k < m) (W : World) (l : Nat) (o o' : Obj) (hl : m ≤ l) (_ : W.heap[l]? = some o) (_ : o.isCells = false) (_ : o.isWalk = false) : KeepB K W (W.putObj l o') :=
  fun k hk => World.putObj_heap_other (by have := hK k hk; omega)
theorem keepB_refl {K : Nat → Prop} (A : World) : KeepB K A A := fun _ _ => rfl
theorem At.keep {K : Nat → Prop} {w w' : World} {r : Nat} {room first : Int} {sv : Value} {l : List NT} (h : At w r room first sv l) (hb : KeepB K w w') (hB : ∀ k, fp r sv k → K k) : At w' r room first sv l :=
  ⟨(hb r (hB r (.inl rfl))).trans h.1, h.2.of_heap fun g hg => hb g (hB g (.inr hg))⟩
theorem cell_keep {K : Nat → Prop} {w w' : World} {b o : Nat} {v : Value} (h : w.cell? ⟨b, o, none⟩ = some v) (hb : KeepB K w w') (hK : K b) : w'.cell? ⟨b, o, none⟩ = some v :=
  (World.cell?_of_block (w := w) (a := ⟨b, o, none⟩) (hb b hK)).trans h

set_option maxRecDepth 100000 in
set_option maxHeartbeats 1000000 in
theorem back_any (w : World) (r : Nat) :
    Calls Try.prog 89 #[.pointer (some ⟨r, 0, none⟩)] w fun e w' => e = .returned (.func (.func 125) #[] #[.pointer (some ⟨w.heap.size, 0, none⟩)]) ∧ w.alloc (.cells #[.pointer (some ⟨r, 0, none⟩)] 151) = w' := by
  have hmf : ∀ (fn : Fn) (first cap : Array Value) (w : World), (Instr.makeFunc fn first cap).run Try.prog w = .ok (.func fn first cap) w := fun _ _ _ _ => rfl
  go_enter Try.func89, Try.ntmps89
  go_wp2
  go_ret
  exact ⟨rfl, rfl⟩

def BackPost (K : Nat → Prop) (J Jx : List (Int × NT) → World → Prop) (xs : List (Int × NT)) (W1 : World) (b : Bool) (W' : World) : Prop := if b = true then J xs W' ∧ KeepB K W1 W' else Jx xs W'

set_option maxRecDepth 100000 in
set_option maxHeartbeats 4000000 in
theorem back1_in (n : Nat) (hn : 1 ≤ n) (lo Bx r : Nat) (K : Nat → Prop) (room first : Int) (sv : Value) (l : List NT) (J Jx : List (Int × NT) → World → Prop)
    (hY : ∀ pre x W1, J pre W1 → pre.length < l.length → YieldAt Fence.wide (n - 1) Try.prog lo (encs x) W1 fun e W' =>
      (e = .returned (.bool true) ∧ J (pre ++ [x]) W' ∧ KeepB K W1 W') ∨ (e = .returned (.bool false) ∧ Jx (pre ++ [x]) W'))
    (W : World) (hc : W.cell? ⟨Bx, 0, none⟩ = some (.pointer (some ⟨r, 0, none⟩))) (hA : At W r room first sv l) (hfp : ∀ k, fp r sv k → K k) (hBx : K Bx) (h0 : 0 ≤ first) (h1 : first + l.length ≤ 4611686018427387904) (hJ0 : J [] W)
    (hJd : ∀ xs W, J xs W → J xs W.drew) :
    CallsIn Fence.wide n Try.prog 125 #[.func (.yield lo) #[] #[], .pointer (some ⟨Bx, 0, none⟩)] W fun e W' => (∃ v, e = .returned v) ∧
      ((∃ ys, ys = upto (backF first l) l.length ∧ J ys W') ∨ (∃ pre, (∃ k, k ≤ l.length ∧ pre = upto (backF first l) k) ∧ Jx pre W')) := by
  obtain ⟨⟨c0, c1, c2⟩, f0, f1, f2⟩ := hA.cells
  obtain ⟨a, c, rfl, hlc, hcm, hsv⟩ := hA.slc
  unfold maxLen at hcm
  refine callsIn_of_wp Try.func125 rfl trivial ?_ rfl
  simp only [Try.ntmps125, List.size_toArray, List.length_cons, List.length_nil, Nat.reduceAdd, Nat.reduceSub, Array.replicate_succ, Array.replicate_zero, List.push_toArray, List.append_toArray, List.nil_append, List.cons_append]
  gi_wp2
  gi_loopw [3] (fun i wr => ∃ k : Nat, k ≤ l.length ∧ i = .int .i64 ((l.length : Int) - 1 - (k : Int)) ∧ J (upto (backF first l) k) wr ∧ KeepB K W wr) (fun i _ => (intOf i + 1).toNat)
  case atStart => exact ⟨0, Nat.zero_le _, by simp, hJ0, keepB_refl _⟩
  case round =>
    obtain ⟨k, hk, rfl, hJs, hkp⟩ := hrel
    have hA2 := hA.keep hkp hfp
    obtain ⟨⟨d0, d1, d2⟩, _⟩ := hA2.cells
    have hcb := cell_keep hc hkp hBx
    by_cases hlt : k < l.length
    · obtain ⟨g, rfl, hgr, hcs⟩ := hsv (by omega)
      obtain ⟨j, hj⟩ : ∃ j : Nat, l.length - 1 - k = j := ⟨_, rfl⟩
      have hjl : j < l.length := by omega
      have hcj : rowIn wr g (j * 67) 67 = some (cs (ntAt l j)) := rowIn_of (fun m v hm => cell_keep (hcs j _ (ntAt_some hjl) m v hm) hkp (hfp g (.inr rfl))) (cs_len _)
      have hi0 : (0 : Int) ≤ (j : Int) := by omega
      have hi1 : (j : Int) < (l.length : Int) := by omega
      have hs1 : first + (j : Int) ≤ 4611686018427387904 := by omega
      have hyk := hY _ (backF first l k) wr.drew (hJd _ _ hJs) (by rw [upto_length]; exact hlt)
      obtain ⟨fn, tmps, assign, body, hy, hR⟩ := hyk
      dsimp only [encs, backF] at hy
      rw [hj] at hy
      have ej : (l.length : Int) - 1 - (k : Int) = (j : Int) := by omega
      rw [ej]
      have EJ := Lib.hid ej
      have HJ := Lib.hid hj
      clear hsv hcs hJs hY hc c0 c1 c2 f0 f1 f2 ej hj
      have hw1 : IntKind.i64.wrap (first + (j : Int)) = first + (j : Int) := IntWalk.i64_in _ (by omega)
      have hR2 := Lib.hid (hR.mono (R' := fun e W' => ∃ b, e = .returned (.bool b) ∧ BackPost K J Jx (upto (backF first l) k ++ [backF first l k]) wr.drew b W') (fun e W' h => by
        rcases h with ⟨rfl, h⟩ | ⟨rfl, h⟩
        · exact ⟨true, rfl, by simp [BackPost]; exact h⟩
        · exact ⟨false, rfl, by simp [BackPost]; exact h⟩))
      have hmx : Try.prog.follows .mixedOrders = true := by kernel_rfl
      clear hR hfp hA hA2 hBx hgr
      gi_wp2
      gi_region_with_o (refine hR2.out.mono ?_; rintro e W3 ⟨b, rfl, hp⟩)
      all_goals
        clear hw1
        cases b
        · gi_wp2
          refine bodyPost_ret (results_none rfl _ _ _) rfl ?_
          exact ⟨⟨_, rfl⟩, .inr ⟨_, ⟨k + 1, by omega, (upto_succ _ _).symm⟩, by simpa [BackPost] using hp⟩⟩
        · have hp2 : J (upto (backF first l) k ++ [backF first l k]) W3 ∧ KeepB K wr.drew W3 := by simpa [BackPost] using hp
          gi_wp2
          go_roundw
          case rel => exact ⟨k + 1, by omega, by have := EJ.out; simp <;> (try omega), by rw [upto_succ]; exact hp2.1, keepB_t hkp (keepB_t (B := wr.drew) (fun _ _ => rfl) hp2.2)⟩
          case measure => have := EJ.out; simp [intOf] <;> (try omega)
    · obtain rfl : k = l.length := by omega
      clear hsv
      gi_wp2
      go_end0
      exact ⟨⟨_, rfl⟩, .inl ⟨_, rfl, hJs⟩⟩

theorem back_stops (n : Nat) (hn : 1 ≤ n) (Bx r : Nat) (K : Nat → Prop) (room first : Int) (sv : Value) (l : List NT) (w : World) (hK : ∀ k, K k → k < w.heap.size)
    (hc : w.cell? ⟨Bx, 0, none⟩ = some (.pointer (some ⟨r, 0, none⟩))) (hA : At w r room first sv l) (hfp : ∀ k, fp r sv k → K k) (hBx : K Bx) (h0 : 0 ≤ first) (h1 : first + l.length ≤ 4611686018427387904) :
    SeqStopsK Fence.wide n Try.prog 125 #[.pointer (some ⟨Bx, 0, none⟩)] encs (KeepB K) (fun ys => ys = upto (backF first l) l.length) (fun pre => ∃ k, k ≤ l.length ∧ pre = upto (backF first l) k) l.length w := fun lo J Jx W hW hJ _ hY hJ0 => by
  have hkb : KeepB K w W := fun k hk => hW.block k (hK k hk)
  exact back1_in n hn lo Bx r K room first sv l J Jx hY W (cell_keep hc hkb hBx) (hA.keep hkb hfp) hfp hBx h0 h1 hJ0
    (fun xs W2 h => hJ xs W2 _ none h ⟨rfl, rfl, rfl, Nat.le_refl _, fun _ _ _ => rfl⟩ (fun r e => by cases e))
end Go.Proofs.Ytblnfkhaicjeaaa.RingE
