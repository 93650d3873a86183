/-
  The walks of backstayref09 (Next, part, At, Set, Put, Drop, Cut) at any ring. Conditions: numbers and lengths without overflow.
-/
import Derived.Test.YtmipapfanelheaaRingIntC
import Derived.Lib.QuietBelow
namespace Go.Proofs.Ytmipapfanelheaa.Ref09
open Go.RowKit

/-- The value of a ring of the document. -/
def rv (room first : Int) (sv : Value) : Value := .agg #[.int .i64 room, .int .i64 first, sv]

set_option maxRecDepth 100000 in
set_option maxHeartbeats 1000000 in
theorem next_any (w : World) (room first : Int) (a : Option Addr) (n c : Nat) (h0 : -4611686018427387904 ≤ first) (h1 : first + n ≤ 4611686018427387904) :
    Calls Try.prog 37 #[rv room first (.slice a n c)] w fun e w' => e = .returned (.int .i64 (first + n)) ∧ Below w.heap.size w w' := by
  unfold rv
  go_enter Try.func37, Try.ntmps37
  go_wp2
  go_ret
  refine ⟨?_, (Below.refl _ w).alloc (Nat.le_refl _) _⟩
  rfl

/-- A slice of ints in memory of its own, laid since w. -/
def Fresh (w w' : World) (sv : Value) (l : List Int) : Prop := On w' 3 1 sv l.length (l.map (.int .i64)) ∧ Below w.heap.size w w' ∧ ∀ k, sv.ownBlock = some k → w.heap.size ≤ k

/-- An int of a slice that is not empty. -/
theorem _root_.Go.Proofs.Ytmipapfanelheaa.On.ints {w : World} {e : TypeId} {v : Value} {l : List Int} (h : On w e 1 v l.length (l.map (.int .i64))) (hl : 0 < l.length) :
    ∃ g cap, v = .slice (some ⟨g, 0, none⟩) l.length cap ∧ ∀ j, j < l.length → w.cell? ⟨g, j, none⟩ = some (.int .i64 (nth l j)) := by
  rcases h.form with ⟨_, e, _⟩ | ⟨g, cap, rfl, _, _, _, _, hc, _⟩
  · omega
  · exact ⟨g, cap, rfl, fun j hj => hc j (.int .i64 (nth l j)) (by simp [nth, List.getD, hj])⟩

theorem take_snoc (xs : List Int) (p k : Nat) (h : p + k < xs.length) : (xs.drop p).take (k + 1) = (xs.drop p).take k ++ [nth xs (p + k)] := by
  rw [List.take_add_one, List.getElem?_drop]
  simp [nth, List.getD, h]

set_option maxRecDepth 100000 in
set_option maxHeartbeats 4000000 in
theorem part_any (w : World) (a : Option Addr) (c : Nat) (xs : List Int) (h : On w 3 1 (.slice a xs.length c) xs.length (xs.map (.int .i64))) (p q : Nat) (hpq : p ≤ q) (hq : q ≤ xs.length) (hx : xs.length ≤ 4097) :
    Calls Try.prog 49 #[.slice a xs.length c, .int .i64 p, .int .i64 q] w fun e w' => ∃ sv, e = .returned sv ∧ Fresh w w' sv ((xs.drop p).take (q - p)) := by
  obtain ⟨i0, hi0, hz0, hz1, hz2⟩ := info_parts RingInt.info
  go_enter Try.func49, Try.ntmps49
  go_wp2_with fail
  go_loopw [7, 8] (fun o i wr => ∃ k : Nat, k ≤ q - p ∧ i = .int .i64 ((p : Int) + (k : Int)) ∧ Fresh w wr o ((xs.drop p).take k)) (fun _ i _ => (q : Nat) - (intOf i).toNat)
  case atStart => exact ⟨0, Nat.zero_le _, by simp, by simp [Fresh]; exact ⟨On.nil _ _ _, Below.refl _ _, by simp [Value.ownBlock]⟩⟩
  case round =>
    obtain ⟨k, hk, rfl, hF, hB, hO⟩ := hrel
    by_cases hlt : k < q - p
    · obtain ⟨l0, hl0⟩ : ∃ l0, l0 = (xs.drop p).take k := ⟨_, rfl⟩
      have hlen : l0.length = k := by rw [hl0, List.length_take, List.length_drop]; omega
      rw [← hl0] at hF
      have HS := Lib.hid (hl0 ▸ take_snoc xs p k (by omega))
      obtain ⟨a1, c1, rfl, hlc1, hcm1⟩ := hF.slice
      obtain ⟨g, cap, e1, hg⟩ := (h.below hB h.lt).ints (by omega)
      cases e1
      have hcj := hg (p + k) (by omega)
      have hj0 : (0 : Int) ≤ (p : Int) + (k : Int) := by omega
      have hj1 : (p : Int) + (k : Int) < (xs.length : Int) := by omega
      have hj2 : (p : Int) + (k : Int) < (q : Int) := by omega
      have hown := hF.alloc (.cells #[.int .i64 (nth xs (p + k))] 3)
      have hl4 : l0.length ≤ 4097 := by omega
      have HL := Lib.hid hlen
      clear hg hl0 hlen
      go_wp2_with (at_builtin; refine wpList_append_on _ rfl (.tmp 15) (.tmp 20) _ rfl 3 i0 _ 1 8 Try.underlying42 hi0 hz0 hz1 hz2 rfl (by omega) (.slice a1 l0.length c1) _ _ rfl hown _ 1 1 [.int .i64 (nth xs (p + k))] rfl rfl (.inr ⟨_, rfl, cell_one_new _ _ _⟩) (by simp [Value.oneCell']) (by simp only [maxLen]; omega) (by omega) ?_; intro v' w1 hown1 hg1 hat1; obtain ⟨a', c', rfl, hlc', hcm'⟩ := hown1.slice; clear hown)
      go_roundw
      case rel =>
        have hlen := HL.out
        refine ⟨k + 1, by omega, by simp; omega, ?_⟩
        rw [HS.out]
        refine ⟨by simpa using hown1, ?_, fun k2 hk2 => ?_⟩
        · exact (hB.alloc hB.size _).grown hg1 (by simpa using Nat.le_succ_of_le hB.size) (fun k2 hk2 => hO k2 hk2)
        · exact (own_le hat1 (n := w.heap.size) (by have := hB.size; simp; omega) k2 hk2).elim (fun e => hO k2 e) id
      case measure => simp [intOf]; omega
    · obtain rfl : k = q - p := by omega
      have hj2 : ¬ ((p : Int) + ((q - p : Nat) : Int) < (q : Int)) := by omega
      go_wp2_with fail
      go_ret
      exact ⟨_, rfl, hF, hB, hO⟩
end Go.Proofs.Ytmipapfanelheaa.Ref09
