/- test -/
import Derived.Test.YtmipapfanelheaaRows
import Derived.WalkKit
import Derived.WalkSpells
import Derived.WalkLawsBesides
import Derived.BigQuiet
import Derived.Deep.QuietTactic
namespace Go.Proofs.Ytmipapfanelheaa
open Go.RowKit
theorem ret_bool {a b : Bool} (h : a = b) : Ending.returned (.bool a) = .returned (.bool b) := by rw [h]
theorem ret_int {k : IntKind} {a b : Int} (h : a = b) : Ending.returned (.int k a) = .returned (.int k b) := by rw [h]

set_option maxHeartbeats 400000 in
theorem new_any (a s b : Int) (w : World) (h : 0 ≤ a ∧ a ≤ 1 ∧ 0 ≤ b ∧ b ≤ 16) :
    Calls Try.prog 10 #[.int .i64 a, .int .u32 s, .int .i64 b] w fun e w' => e = .returned (.tuple #[.pointer (some ⟨w.heap.size, 0, none⟩), .int .i64 0]) ∧ w' = w.alloc (.cells #[.int .i64 a, .int .u32 s, .int .i64 b] 35) := by
  obtain ⟨h1, h2, h3, h4⟩ := h
  go_enter Try.func10, Try.ntmps10
  go_wp2
  go_ret2
  exact ⟨rfl, rfl⟩

set_option maxHeartbeats 400000 in
theorem new_no (a s b : Int) (w : World) (h : ¬ (0 ≤ a ∧ a ≤ 1 ∧ 0 ≤ b ∧ b ≤ 16)) :
    Calls Try.prog 10 #[.int .i64 a, .int .u32 s, .int .i64 b] w fun e w' => e = .returned (.tuple #[.pointer none, .int .i64 1]) ∧ w' = w := by
  go_enter Try.func10, Try.ntmps10
  go_wp2
  all_goals first
    | (go_ret2; exact ⟨rfl, rfl⟩)
    | (exfalso; omega)

def plan (a s b : Int) : Array Value := #[.int .i64 a, .int .u32 s, .int .i64 b]
def rightB (a b : Int) : Bool := decide (0 ≤ a ∧ a ≤ 1 ∧ 0 ≤ b ∧ b ≤ 16)

set_option maxHeartbeats 400000 in
theorem right_any (a s b : Int) (w : World) :
    Calls Try.prog 11 #[.agg #[.int .i64 a, .int .u32 s, .int .i64 b]] w fun e w' => e = .returned (.bool (rightB a b)) ∧ w' = w.alloc (.cells #[.int .i64 a, .int .u32 s, .int .i64 b] 24) := by
  go_enter Try.func11, Try.ntmps11
  go_wp2
  all_goals
    go_ret
    refine ⟨ret_bool ?_, rfl⟩
    rw [rightB, Bool.eq_iff_iff]
    simp
    try omega

set_option maxHeartbeats 400000 in
theorem whims_any (w : World) :
    Calls Try.prog 12 #[] w fun e w' => e = .returned (.slice (some ⟨w.heap.size, 0, none⟩) 8 8) ∧ w' = w.alloc (.cells #[.int .u16 0, .int .u16 1, .int .u16 2, .int .u16 4, .int .u16 16, .int .u16 32, .int .u16 6, .int .u16 5] 34) := by
  go_enter Try.func12, Try.ntmps12
  go_wp2
  go_ret
  exact ⟨rfl, rfl⟩

set_option maxHeartbeats 400000 in
theorem awake_any (w : World) :
    Calls Try.prog 9 #[] w fun e w' => e = .returned (.bool true) ∧ Below w.heap.size w w' := by
  go_enter Try.func9, Try.ntmps9
  go_wp2_with (first | (go_at_call 10; refine (new_any _ _ _ _ (by omega)).mono ?_; rintro e w' ⟨rfl, rfl⟩) | (go_at_call 12; refine (whims_any _).mono ?_; rintro e w' ⟨rfl, rfl⟩))
  go_ret
  exact ⟨rfl, ((Below.refl _ _).alloc (by simp) _).alloc (by simp) _⟩



theorem below_drewN {B : Nat} {a w : World} (h : Below B a w) (n : Nat) : Below B a (w.drewN n) := ⟨h.os, h.tape, h.output, h.size, h.block⟩
theorem bcell {W w1 : World} (hb : Below W.heap.size W w1) : (∀ b o, b < W.heap.size → w1.cell? ⟨b, o, none⟩ = W.cell? ⟨b, o, none⟩) ∧ (∀ b o, b < W.heap.size → w1.frozen? ⟨b, o, none⟩ = W.frozen? ⟨b, o, none⟩) :=
  ⟨fun b o h => hb.cell (p := ⟨b, o, none⟩) h, fun b o h => hb.frozen (p := ⟨b, o, none⟩) h⟩

set_option maxHeartbeats 1000000 in
theorem news_no (a s b : Int) (w : World) (h : ¬ (0 ≤ a ∧ a ≤ 1 ∧ 0 ≤ b ∧ b ≤ 16)) (hr : rightB a b = false) :
    Calls Try.prog 3 #[.agg #[.int .i64 a, .int .u32 s, .int .i64 b]] w fun e w' => e = .returned (.bool true) ∧ Below w.heap.size w w' := by
  go_enter Try.func3, Try.ntmps3
  go_wp2_with fail
  refine (awake_any _).mono ?_
  rintro e w1 ⟨rfl, hg⟩
  obtain ⟨hc, hf⟩ := bcell hg
  obtain ⟨hz, hz1, hz2, hz3, hz4⟩ : w.heap.size < w1.heap.size ∧ w.heap.size < w1.heap.size + 1 ∧ w.heap.size < w1.heap.size + 1 + 1 ∧ w.heap.size < w1.heap.size + 1 + 1 + 1 ∧ w.heap.size < w1.heap.size + 1 + 1 + 1 + 1 := by have := hg.size; simp at this; omega
  go_wp2_with (first | (go_at_call 10; refine (new_no _ _ _ _ h).mono ?_; rintro e w' ⟨rfl, rfl⟩) | (go_at_call 11; refine (right_any _ _ _ _).mono ?_; rintro e w' ⟨rfl, rfl⟩) | (go_at_call 12; refine (whims_any _).mono ?_; rintro e w' ⟨rfl, rfl⟩))
  go_ret
  exact ⟨rfl, (((Below.refl _ _).alloc (Nat.le_refl _) _).trans (hg.mono (by simp))).alloc (by omega) _⟩

def whimL : List Int := [0, 1, 2, 4, 16, 32, 6, 5]
def NewsInv (w : World) (n : Nat) (a s b : Int) (wr : World) : Prop :=
  ((∀ k : Nat, k < 8 → wr.cell? ⟨n + 1 + 1, k, none⟩ = some (.int .u16 (whimL.getD k 0))) ∧ (∀ k : Nat, k < 8 → wr.cell? ⟨n + 1 + 1 + 1, k, none⟩ = some (.int .u16 (whimL.getD k 0)))) ∧
  (wr.cell? ⟨w.heap.size, 0, none⟩ = some (.int .i64 a) ∧ wr.cell? ⟨w.heap.size, 1, none⟩ = some (.int .u32 s) ∧ wr.cell? ⟨w.heap.size, 2, none⟩ = some (.int .i64 b)) ∧
  (wr.cell? ⟨n, 0, none⟩ = some (.int .i64 a) ∧ wr.cell? ⟨n, 1, none⟩ = some (.int .u32 s) ∧ wr.cell? ⟨n, 2, none⟩ = some (.int .i64 b)) ∧ Below w.heap.size w wr

set_option maxHeartbeats 1000000 in
theorem news_yes (a s b : Int) (w : World) (h : 0 ≤ a ∧ a ≤ 1 ∧ 0 ≤ b ∧ b ≤ 16) (hr : rightB a b = true) :
    Calls Try.prog 3 #[.agg #[.int .i64 a, .int .u32 s, .int .i64 b]] w fun e w' => e = .returned (.bool true) ∧ Below w.heap.size w w' := by
  go_enter Try.func3, Try.ntmps3
  go_wp2_with fail
  refine (awake_any _).mono ?_
  rintro e w1 ⟨rfl, hg⟩
  obtain ⟨hc, hf⟩ := bcell hg
  obtain ⟨hz, hz1, hz2, hz3, hz4⟩ : w.heap.size < w1.heap.size ∧ w.heap.size < w1.heap.size + 1 ∧ w.heap.size < w1.heap.size + 1 + 1 ∧ w.heap.size < w1.heap.size + 1 + 1 + 1 ∧ w.heap.size < w1.heap.size + 1 + 1 + 1 + 1 := by have := hg.size; simp at this; omega
  go_wp2_with (first | (go_at_call 10; refine (new_any _ _ _ _ (by omega)).mono ?_; rintro e w' ⟨rfl, rfl⟩) | (go_at_call 11; refine (right_any _ _ _ _).mono ?_; rintro e w' ⟨rfl, rfl⟩) | (go_at_call 12; refine (whims_any _).mono ?_; rintro e w' ⟨rfl, rfl⟩))
  go_loopw [7] (fun i wr => ∃ k : Nat, k ≤ 8 ∧ i = .int .i64 k ∧ NewsInv w w1.heap.size a s b wr) (fun i _ => 8 - (intOf i).toNat)
  case atStart =>
    refine ⟨0, by omega, rfl, ?_, ?_, ?_, ?_⟩
    · exact ⟨fun k hk => by (rcases k with _|_|_|_|_|_|_|_|k) <;> first | (exfalso; omega) | (go_simp; rfl), fun k hk => by (rcases k with _|_|_|_|_|_|_|_|k) <;> first | (exfalso; omega) | (go_simp; rfl)⟩
    · go_simp
    · go_simp
    · exact ((((((Below.refl _ _).alloc (Nat.le_refl _) _).trans (hg.mono (by simp))).alloc (by omega) _).alloc (by simp; omega) _).alloc (by simp; omega) _).alloc (by simp; omega) _
  case round =>
    obtain ⟨k, hk, rfl, ⟨c1, c2⟩, ⟨c3, c4, c5⟩, ⟨c6, c7, c8⟩, hb⟩ := hrel
    by_cases hlt : k < 8
    · have d1 := c1 k hlt
      have d2 := c2 k hlt
      go_wp2_with fail
      go_quiet (fail)
      go_wp2_with fail
      go_roundw
      case rel => exact ⟨k + 1, by omega, by go_num, ⟨c1, c2⟩, ⟨c3, c4, c5⟩, ⟨c6, c7, c8⟩, below_drewN hb _⟩
      case measure => simp [intOf]; omega
    · have : k = 8 := by omega
      subst this
      go_wp2_with fail
      go_quiet (fail)
      go_wp2_with fail
      go_ret
      exact ⟨rfl, below_drewN hb _⟩


theorem news_any (a s b : Int) (w : World) :
    Calls Try.prog 3 #[.agg #[.int .i64 a, .int .u32 s, .int .i64 b]] w fun e w' => e = .returned (.bool true) ∧ Below w.heap.size w w' := by
  by_cases h : 0 ≤ a ∧ a ≤ 1 ∧ 0 ≤ b ∧ b ≤ 16
  · exact news_yes a s b w h (by simp [rightB, h])
  · exact news_no a s b w h (by simp only [rightB]; exact decide_eq_false h)

end Go.Proofs.Ytmipapfanelheaa