/-
  net: what is on the ways; the walks of New, way, Len, Flight.
-/
import Derived.Test.YtmceaffoffemlaaKit
import Derived.Test.YtmceaffoffemlaaFlat
import Derived.Test.YtmceaffoffemlaaProg
namespace Go.Proofs.Ytmceaffoffemlaa.Netw
open Go.RowKit
set_option linter.all false

/-- The net's own cells: the four ways' slices, and three counts. -/
def nc (v0 v1 v2 v3 : Value) (full long moved : Int) : Array Value := #[v0, v1, v2, v3, .int .i64 full, .int .i64 long, .int .i64 moved]

theorem way_in (w : World) (n : Nat) (d b : Nat) (ht : d < 2) (hb : b < 2) :
    Calls Try.prog 47 #[.pointer (some ⟨n, 0, none⟩), .int .i64 d, .int .i64 b] w fun e w' => e = .returned (.tuple #[.pointer (some ⟨n, 2 * d + b, none⟩), .int .i64 0]) ∧ w = w' := by
  obtain rfl | rfl : d = 0 ∨ d = 1 := by omega
  all_goals
    obtain rfl | rfl : b = 0 ∨ b = 1 := by omega
    all_goals
      go_enter Try.func47, Try.ntmps47
      go_wp2_with fail
      go_ret2
      exact ⟨rfl, rfl⟩

theorem way_out (w : World) (n : Nat) (d b : Int) (h : d < 0 ∨ (¬ d < 0 ∧ 2 ≤ d) ∨ (¬ d < 0 ∧ ¬ 2 ≤ d ∧ b < 0) ∨ (¬ d < 0 ∧ ¬ 2 ≤ d ∧ ¬ b < 0 ∧ 2 ≤ b)) :
    Calls Try.prog 47 #[.pointer (some ⟨n, 0, none⟩), .int .i64 d, .int .i64 b] w fun e w' => e = .returned (.tuple #[.pointer none, .int .i64 62]) ∧ w = w' := by
  rcases h with h | ⟨h1, h2⟩ | ⟨h1, h2, h3⟩ | ⟨h1, h2, h3, h4⟩
  all_goals
    go_enter Try.func47, Try.ntmps47
    go_wp2_with fail
    go_ret2
    exact ⟨rfl, rfl⟩

theorem new_any (w : World) :
    Calls Try.prog 11 #[] w fun e w' => e = .returned (.pointer (some ⟨w.heap.size, 0, none⟩)) ∧ Blk w' w.heap.size 86 (nc (.slice none 0 0) (.slice none 0 0) (.slice none 0 0) (.slice none 0 0) 0 0 0) ∧ Below w.heap.size w w' := by
  go_enter Try.func11, Try.ntmps11
  go_wp2_with fail
  go_ret
  exact ⟨rfl, Blk.new _ _ _, (Below.refl _ _).alloc (Nat.le_refl _) _⟩

theorem len_in (w : World) (n : Nat) (d b l c : Nat) (a : Option Addr) (ht : d < 2) (hb : b < 2) (h : w.cell? ⟨n, 2 * d + b, none⟩ = some (.slice a l c)) :
    Calls Try.prog 15 #[.pointer (some ⟨n, 0, none⟩), .int .i64 d, .int .i64 b] w fun e w' => e = .returned (.int .i64 l) ∧ w = w' := by
  have p := Lib.hid (way_in w n d b ht hb)
  go_enter Try.func15, Try.ntmps15
  go_wp2_with fail
  refine p.out.mono ?_
  rintro e w' ⟨rfl, rfl⟩
  go_wp2_with fail
  go_ret
  exact ⟨rfl, rfl⟩

theorem len_out (w : World) (n : Nat) (d b : Int) (h : d < 0 ∨ (¬ d < 0 ∧ 2 ≤ d) ∨ (¬ d < 0 ∧ ¬ 2 ≤ d ∧ b < 0) ∨ (¬ d < 0 ∧ ¬ 2 ≤ d ∧ ¬ b < 0 ∧ 2 ≤ b)) :
    Calls Try.prog 15 #[.pointer (some ⟨n, 0, none⟩), .int .i64 d, .int .i64 b] w fun e w' => e = .returned (.int .i64 0) ∧ w = w' := by
  have p := Lib.hid (way_out w n d b h)
  clear h
  go_enter Try.func15, Try.ntmps15
  go_wp2_with fail
  refine p.out.mono ?_
  rintro e w' ⟨rfl, rfl⟩
  go_wp2_with fail
  go_ret
  exact ⟨rfl, rfl⟩

/-- at: nothing there. -/
theorem at_none (w : World) (n : Nat) (d b c : Nat) (i : Int) (a : Option Addr) (ht : d < 2) (hb : b < 2) (h : w.cell? ⟨n, 2 * d + b, none⟩ = some (.slice a 0 c)) :
    Calls Try.prog 48 #[.pointer (some ⟨n, 0, none⟩), .int .i64 d, .int .i64 b, .int .i64 i] w fun e w' => e = .returned (.tuple #[.pointer none, .int .i64 0, .int .i64 91]) ∧ w = w' := by
  have p := Lib.hid (way_in w n d b ht hb)
  go_enter Try.func48, Try.ntmps48
  go_wp2_with fail
  refine p.out.mono ?_
  rintro e w' ⟨rfl, rfl⟩
  go_wp2_with fail
  go_ret3
  exact ⟨rfl, rfl⟩

theorem tmod_cases (i : Int) (l : Nat) (hl : 0 < l) : (Int.tmod i l < 0 ∧ Int.tmod i l + l = i % l) ∨ (¬ Int.tmod i l < 0 ∧ Int.tmod i l = i % l) := by
  have hp : (0 : Int) < (l : Int) := by omega
  have h1 := Int.tmod_eq_emod (a := i) (b := (l : Int))
  have e1 := Int.emod_nonneg i (show (l : Int) ≠ 0 by omega)
  have e2 := Int.emod_lt_of_pos i hp
  by_cases c : 0 ≤ i ∨ (l : Int) ∣ i
  · rw [if_pos c] at h1
    omega
  · rw [if_neg c] at h1
    have : i % (l : Int) ≠ 0 := fun e => c (.inr (Int.dvd_of_emod_eq_zero e))
    omega

/-- at: counted round. -/
theorem at_some (w : World) (n : Nat) (d b l c : Nat) (i : Int) (a : Option Addr) (ht : d < 2) (hb : b < 2) (hl : 0 < l) (hl2 : l ≤ 1000000) (hi : -9223372036854775808 ≤ i ∧ i ≤ 9223372036854775807) (h : w.cell? ⟨n, 2 * d + b, none⟩ = some (.slice a l c)) :
    Calls Try.prog 48 #[.pointer (some ⟨n, 0, none⟩), .int .i64 d, .int .i64 b, .int .i64 i] w fun e w' => e = .returned (.tuple #[.pointer (some ⟨n, 2 * d + b, none⟩), .int .i64 (i % l), .int .i64 0]) ∧ w = w' := by
  have p := Lib.hid (way_in w n d b ht hb)
  have hp : (0 : Int) < (l : Int) := by omega
  have e1 := Int.emod_nonneg i (show (l : Int) ≠ 0 by omega)
  have e2 := Int.emod_lt_of_pos i hp
  have hl0 : ((l : Int) == 0) = false := by simp; omega
  have hln : ¬ l = 0 := by omega
  have hT := tmod_cases i l hl
  have hw : IntKind.i64.wrap (Int.tmod i l) = Int.tmod i l := IntWalk.i64_in _ (by omega)
  generalize hm : i % (l : Int) = m at *
  rcases hT with ⟨t1, t2⟩ | ⟨t1, t2⟩
  all_goals
    go_enter Try.func48, Try.ntmps48
    go_wp2_with fail
    refine p.out.mono ?_
    rintro e w' ⟨rfl, rfl⟩
    go_wp2_with fail
    go_ret3
    exact ⟨rfl, rfl⟩
end Go.Proofs.Ytmceaffoffemlaa.Netw
