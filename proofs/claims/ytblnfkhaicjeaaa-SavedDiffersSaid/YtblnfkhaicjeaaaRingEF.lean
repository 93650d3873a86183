/-
  The walks of package ring at element type saved.entry: Back, as a range over a function that hands on just the entries that there are. Conditions: the ring lies in blocks that a round keeps.
-/
import Derived.Test.YtblnfkhaicjeaaaRingEE
namespace Go.Proofs.Ytblnfkhaicjeaaa.RingE
open Go.RowKit Go.Shelf Go.Proofs.Ytblnfkhaicjeaaa.Gm
set_option linter.all false
attribute [local go_sem] Oper.semAt_some
attribute [local go_sem ↓] loadAt_E
attribute [local go_sem] run_loadE loadJ_some rowIn_drew


def BackPostN (K : Nat → Prop) (J Jx : Nat → World → Prop) (k : Nat) (W1 : World) (b : Bool) (W' : World) : Prop := if b = true then J k W' ∧ KeepB K W1 W' else Jx k W'

set_option maxRecDepth 100000 in
set_option maxHeartbeats 4000000 in
theorem back1_nat (n : Nat) (hn : 1 ≤ n) (lo Bx r : Nat) (K : Nat → Prop) (room first : Int) (sv : Value) (l : List NT) (J Jx : Nat → World → Prop)
    (hY : ∀ k, k < l.length → ∀ W1, J k W1 → YieldAt Fence.wide (n - 1) Try.prog lo (encs (backF first l k)) W1 fun e W' =>
      (e = .returned (.bool true) ∧ J (k + 1) W' ∧ KeepB K W1 W') ∨ (e = .returned (.bool false) ∧ Jx (k + 1) W'))
    (W : World) (hc : W.cell? ⟨Bx, 0, none⟩ = some (.pointer (some ⟨r, 0, none⟩))) (hA : At W r room first sv l) (hfp : ∀ k, fp r sv k → K k) (hBx : K Bx) (h0 : 0 ≤ first) (h1 : first + l.length ≤ 4611686018427387904) (hJ0 : J 0 W)
    (hJd : ∀ k W, J k W → J k W.drew) :
    CallsIn Fence.wide n Try.prog 125 #[.func (.yield lo) #[] #[], .pointer (some ⟨Bx, 0, none⟩)] W fun e W' => (∃ v, e = .returned v) ∧
      (J l.length W' ∨ ∃ k, k ≤ l.length ∧ Jx k W') := by
  obtain ⟨⟨c0, c1, c2⟩, f0, f1, f2⟩ := hA.cells
  obtain ⟨a, c, rfl, hlc, hcm, hsv⟩ := hA.slc
  unfold maxLen at hcm
  refine callsIn_of_wp Try.func125 rfl trivial ?_ rfl
  simp only [Try.ntmps125, List.size_toArray, List.length_cons, List.length_nil, Nat.reduceAdd, Nat.reduceSub, Array.replicate_succ, Array.replicate_zero, List.push_toArray, List.append_toArray, List.nil_append, List.cons_append]
  gi_wp2
  gi_loopw [3] (fun i wr => ∃ k : Nat, k ≤ l.length ∧ i = .int .i64 ((l.length : Int) - 1 - (k : Int)) ∧ J k wr ∧ KeepB K W wr) (fun i _ => (intOf i + 1).toNat)
  case atStart => exact ⟨0, Nat.zero_le _, by simp, hJ0, keepB_refl _⟩
  case round =>
    obtain ⟨k, hk, rfl, hJs, hkp⟩ := hrel
    have hA2 := hA.keep hkp hfp
    obtain ⟨⟨d0, d1, d2⟩, _⟩ := hA2.cells
    have hcb := cell_keep hc hkp hBx
    by_cases hlt : k < l.length
    · obtain ⟨g, rfl, hgr, hcs⟩ := hsv (by omega)
      obtain ⟨j, hj⟩ : ∃ j : Nat, l.length - 1 - k = j := ⟨_, rfl⟩
      have hjl : j < l.length := by omega
      have hcj : rowIn wr g (j * 67) 67 = some (cs (ntAt l j)) := rowIn_of (fun m v hm => cell_keep (hcs j _ (ntAt_some hjl) m v hm) hkp (hfp g (.inr rfl))) (cs_len _)
      have hi0 : (0 : Int) ≤ (j : Int) := by omega
      have hi1 : (j : Int) < (l.length : Int) := by omega
      have hs1 : first + (j : Int) ≤ 4611686018427387904 := by omega
      have hyk := hY k hlt wr.drew (hJd _ _ hJs)
      obtain ⟨fn, tmps, assign, body, hy, hR⟩ := hyk
      dsimp only [encs, backF] at hy
      rw [hj] at hy
      have ej : (l.length : Int) - 1 - (k : Int) = (j : Int) := by omega
      rw [ej]
      have EJ := Lib.hid ej
      have HJ := Lib.hid hj
      clear hsv hcs hJs hY hc c0 c1 c2 f0 f1 f2 ej hj
      have hw1 : IntKind.i64.wrap (first + (j : Int)) = first + (j : Int) := IntWalk.i64_in _ (by omega)
      have hR2 := Lib.hid (hR.mono (R' := fun e W' => ∃ b, e = .returned (.bool b) ∧ BackPostN K J Jx (k + 1) wr.drew b W') (fun e W' h => by
        rcases h with ⟨rfl, h⟩ | ⟨rfl, h⟩
        · exact ⟨true, rfl, by simp [BackPostN]; exact h⟩
        · exact ⟨false, rfl, by simp [BackPostN]; exact h⟩))
      have hmx : Try.prog.follows .mixedOrders = true := by kernel_rfl
      clear hR hfp hA hA2 hBx hgr
      gi_wp2
      gi_region_with_o (refine hR2.out.mono ?_; rintro e W3 ⟨b, rfl, hp⟩)
      all_goals
        clear hw1
        cases b
        · gi_wp2
          refine bodyPost_ret (results_none rfl _ _ _) rfl ?_
          exact ⟨⟨_, rfl⟩, .inr ⟨k + 1, by omega, by simpa [BackPostN] using hp⟩⟩
        · have hp2 : J (k + 1) W3 ∧ KeepB K wr.drew W3 := by simpa [BackPostN] using hp
          gi_wp2
          go_roundw
          case rel => exact ⟨k + 1, by omega, by have := EJ.out; simp <;> (try omega), hp2.1, keepB_t hkp (keepB_t (B := wr.drew) (fun _ _ => rfl) hp2.2)⟩
          case measure => have := EJ.out; simp [intOf] <;> (try omega)
    · obtain rfl : k = l.length := by omega
      clear hsv
      gi_wp2
      go_end0
      exact ⟨⟨_, rfl⟩, .inl hJs⟩

/-- Back as an iterator of indices: only what comes comes. -/
theorem back_nat (n : Nat) (hn : 1 ≤ n) (Bx r : Nat) (K : Nat → Prop) (room first : Int) (sv : Value) (l : List NT) (w : World) (hK : ∀ k, K k → k < w.heap.size)
    (hc : w.cell? ⟨Bx, 0, none⟩ = some (.pointer (some ⟨r, 0, none⟩))) (hA : At w r room first sv l) (hfp : ∀ k, fp r sv k → K k) (hBx : K Bx) (h0 : 0 ≤ first) (h1 : first + l.length ≤ 4611686018427387904) :
    SeqStopsK Fence.wide n Try.prog 125 #[.pointer (some ⟨Bx, 0, none⟩)] (fun k => encs (backF first l k)) (KeepB K) (fun ys => ys = List.range l.length) (fun pre => ∃ k, k ≤ l.length ∧ pre = List.range k) l.length w := fun lo J Jx W hW hJ _ hY hJ0 => by
  have hkb : KeepB K w W := fun k hk => hW.block k (hK k hk)
  refine (back1_nat n hn lo Bx r K room first sv l (fun k W => J (List.range k) W) (fun k W => Jx (List.range k) W) (fun k hk W1 h => ?_) W (cell_keep hc hkb hBx) (hA.keep hkb hfp) hfp hBx h0 h1 hJ0
    (fun k W2 h => hJ _ W2 _ none h ⟨rfl, rfl, rfl, Nat.le_refl _, fun _ _ _ => rfl⟩ (fun r e => by cases e))).mono ?_
  · have := hY (List.range k) k W1 h (by simpa using hk)
    rw [← List.range_succ] at this
    exact this
  · rintro e W2 ⟨hv, h | ⟨k, hk, h⟩⟩
    · exact ⟨hv, .inl ⟨_, rfl, h⟩⟩
    · exact ⟨hv, .inr ⟨_, ⟨k, hk, rfl⟩, h⟩⟩
end Go.Proofs.Ytblnfkhaicjeaaa.RingE
