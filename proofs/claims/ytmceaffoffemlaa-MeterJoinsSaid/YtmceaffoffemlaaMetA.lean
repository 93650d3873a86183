/-
  meter: slices.BinarySearch at ints, Table.Place, word.Add, word.Clamp.
-/
import Derived.Test.YtmceaffoffemlaaMet
import Derived.Test.YtmceaffoffemlaaProg
namespace Go.Proofs.Ytmceaffoffemlaa.Met
open Go.RowKit
set_option linter.all false

theorem nan1 (w : World) (x : Int) : Calls Try.prog 79 #[.int .i64 x] w fun e w' => e = .returned (.bool false) ∧ w = w' := by
  go_enter Try.func79, Try.ntmps79
  go_wp2_with fail
  go_ret
  exact ⟨ret_bool (by simp), rfl⟩
theorem nan2 (w : World) (x : Int) : Calls Try.prog 97 #[.int .i64 x] w fun e w' => e = .returned (.bool false) ∧ w = w' := by
  go_enter Try.func97, Try.ntmps97
  go_wp2_with fail
  go_ret
  exact ⟨ret_bool (by simp), rfl⟩
theorem less_any (w : World) (x y : Int) : Calls Try.prog 78 #[.int .i64 x, .int .i64 y] w fun e w' => e = .returned (.bool (decide (x < y))) ∧ w = w' := by
  have p := Lib.hid (nan2 w x)
  have q := Lib.hid (nan2 w y)
  go_enter Try.func78, Try.ntmps78
  go_wp2_with fail
  refine p.out.mono ?_
  rintro e w' ⟨rfl, rfl⟩
  go_wp2_with fail
  go_ret
  exact ⟨rfl, rfl⟩
theorem word_add (w : World) (a b : Int) (ha : -9223372036854775808 ≤ a ∧ a ≤ 9223372036854775807) (hb : -9223372036854775808 ≤ b ∧ b ≤ 9223372036854775807) :
    Calls Try.prog 63 #[.int .i64 a, .int .i64 b] w fun e w' => e = .returned (.int .i64 (clampI (a + b))) ∧ w = w' := by
  by_cases h1 : 0 < b
  · have e1 : IntKind.i64.wrap (9223372036854775807 - b) = 9223372036854775807 - b := IntWalk.i64_in _ (by omega)
    have h2 : ¬ b < 0 := by omega
    by_cases h3 : 9223372036854775807 - b < a
    · go_enter Try.func63, Try.ntmps63
      go_wp2_with fail
      go_ret
      exact ⟨ret_int (by unfold clampI; omega), rfl⟩
    · have e2 : IntKind.i64.wrap (a + b) = a + b := IntWalk.i64_in _ (by omega)
      go_enter Try.func63, Try.ntmps63
      go_wp2_with fail
      go_ret
      exact ⟨ret_int (by unfold clampI; omega), rfl⟩
  · by_cases h2 : b < 0
    · have e1 : IntKind.i64.wrap (-9223372036854775808 - b) = -9223372036854775808 - b := IntWalk.i64_in _ (by omega)
      by_cases h3 : a < -9223372036854775808 - b
      · go_enter Try.func63, Try.ntmps63
        go_wp2_with fail
        go_ret
        exact ⟨ret_int (by unfold clampI; omega), rfl⟩
      · have e2 : IntKind.i64.wrap (a + b) = a + b := IntWalk.i64_in _ (by omega)
        go_enter Try.func63, Try.ntmps63
        go_wp2_with fail
        go_ret
        exact ⟨ret_int (by unfold clampI; omega), rfl⟩
    · have e2 : IntKind.i64.wrap (a + b) = a + b := IntWalk.i64_in _ (by omega)
      go_enter Try.func63, Try.ntmps63
      go_wp2_with fail
      go_ret
      exact ⟨ret_int (by unfold clampI; omega), rfl⟩
theorem word_clamp (w : World) (a b c m : Int) (hbc : b < c) (hm : m = max b (min a c)) :
    Calls Try.prog 52 #[.int .i64 a, .int .i64 b, .int .i64 c] w fun e w' => e = .returned (.int .i64 m) ∧ w = w' := by
  have h1 : (if b < c then c else b) = c := by rw [if_pos hbc]
  obtain ⟨x, hx⟩ : ∃ x, x = min a c := ⟨_, rfl⟩
  have h2 : (if c < a then c else a) = x := by rw [hx]; omega
  have h3 : (if b < x then x else b) = m := by rw [hm, ← hx]; omega
  clear hm hx
  go_enter Try.func52, Try.ntmps52
  go_wp2_with fail
  go_ret
  exact ⟨rfl, rfl⟩

/-- A place, and whether it is there. -/
def Found (p : Nat) (e : Ending) : Prop := ∃ f, e = .returned (.tuple #[.int .i64 p, .bool f])
set_option maxRecDepth 100000 in
set_option maxHeartbeats 4000000 in
theorem search_any (w : World) (a : Option Addr) (c : Nat) (bs : List Int) (n : Int) (hr : Row .i64 w a bs.length bs) (hb : Adj bs) (hl : bs.length ≤ 1000000) :
    Calls Try.prog 51 #[.slice a bs.length c, .int .i64 n] w fun e w' => Found (place bs n) e ∧ w = w' := by
  go_enter Try.func51, Try.ntmps51
  go_wp2_with fail
  go_loopw [7, 8] (fun iv jv wr => ∃ i j : Nat, iv = .int .i64 i ∧ jv = .int .i64 j ∧ i ≤ j ∧ j ≤ bs.length ∧ (∀ k, k < i → nth bs k < n) ∧ (∀ k, j ≤ k → k < bs.length → n ≤ nth bs k) ∧ wr = w) (fun iv jv _ => (intOf jv).toNat - (intOf iv).toNat)
  case atStart => exact ⟨0, bs.length, rfl, rfl, by omega, by omega, fun k hk => by omega, fun k h1 h2 => by omega, rfl⟩
  case round =>
    obtain ⟨i, j, rfl, rfl, hij, hj, k1, k2, rfl⟩ := hrel
    by_cases hlt : i < j
    · obtain ⟨gb, ob, rfl, hgb, hcb⟩ := hr.2 (by omega)
      have hlt' : (i : Int) < (j : Int) := by omega
      have hw1 : IntKind.i64.wrap ((i : Int) + (j : Int)) = ((i + j : Nat) : Int) := by rw [IntWalk.i64_in _ (by omega)]; omega
      obtain ⟨m, hm, hm1, hm2⟩ : ∃ m : Nat, ((i : Int) + (j : Int)) / 2 = (m : Int) ∧ i ≤ m ∧ m < j := ⟨(i + j) / 2, by omega, by omega, by omega⟩
      have c1 := hcb m (by omega)
      have i1 : (0 : Int) ≤ (m : Int) := by omega
      have i2 : (m : Int) < (bs.length : Int) := by omega
      have hwm : IntKind.i64.wrap ((m : Int) + 1) = ((m + 1 : Nat) : Int) := by rw [IntWalk.i64_in _ (by omega)]; omega
      have p := Lib.hid (less_any wr (nth bs m) n)
      have HB := Lib.hid hb
      clear hcb
      by_cases hx : nth bs m < n
      · generalize hv : nth bs m = v at c1 p hx
        go_wp2_with fail
        refine p.out.mono ?_
        rintro e w' ⟨rfl, rfl⟩
        go_wp2_with fail
        go_roundw
        case rel =>
          refine ⟨m + 1, j, by go_num, rfl, by omega, by omega, fun k hk => ?_, k2, by first | trivial | rfl⟩
          by_cases e : k = m
          · subst e; omega
          · have := adj_lt' HB.out (i := k) (j := m) (by omega) (by omega); omega
        case measure => simp [intOf]; omega
      · generalize hv : nth bs m = v at c1 p hx
        go_wp2_with fail
        refine p.out.mono ?_
        rintro e w' ⟨rfl, rfl⟩
        go_wp2_with fail
        go_roundw
        case rel =>
          refine ⟨i, m, rfl, rfl, by omega, by omega, k1, fun k h1 h2 => ?_, by first | trivial | rfl⟩
          by_cases e : k = m
          · subst e; omega
          · have := adj_lt' HB.out (i := m) (j := k) (by omega) (by omega); omega
        case measure => simp [intOf]; omega
    · obtain rfl : i = j := by omega
      have PE := Lib.hid (place_eq hj k1 k2)
      have hlt' : ¬ (i : Int) < (i : Int) := by omega
      have q := Lib.hid (fun x => nan1 wr x)
      by_cases hin : i < bs.length
      · obtain ⟨gb, ob, rfl, hgb, hcb⟩ := hr.2 (by omega)
        have c1 := hcb i hin
        have i1 : (0 : Int) ≤ (i : Int) := by omega
        have i2 : (i : Int) < (bs.length : Int) := by omega
        clear hcb hr
        generalize nth bs i = v at c1
        by_cases hx : v = n
        · subst hx
          go_wp2_with fail
          go_ret2
          exact ⟨⟨_, by rw [PE.out]; rfl⟩, rfl⟩
        · go_wp2_with fail
          refine (q.out _).mono ?_
          rintro e w' ⟨rfl, rfl⟩
          go_wp2_with fail
          go_ret2
          exact ⟨⟨_, by rw [PE.out]; rfl⟩, rfl⟩
      · have i2 : ¬ (i : Int) < (bs.length : Int) := by omega
        go_wp2_with fail
        go_ret2
        exact ⟨⟨_, by rw [PE.out]; rfl⟩, rfl⟩
end Go.Proofs.Ytmceaffoffemlaa.Met
