/-
  backstayref37: Right, Place, Count, Ends, Part, Bound.
-/
import Derived.Test.YtmceaffoffemlaaMetD
namespace Go.Proofs.Ytmceaffoffemlaa.Met
open Go.RowKit
set_option linter.all false

/-- It says whether bounds may be. -/
def SaysRight (bs : List Int) (e : Ending) : Prop := e = .returned (.bool true) ∧ Right bs ∨ e = .returned (.bool false) ∧ ¬ Right bs

set_option maxRecDepth 100000 in
set_option maxHeartbeats 4000000 in
theorem right_any (w : World) (a : Option Addr) (c : Nat) (bs : List Int) (hr : Row .i64 w a bs.length bs) (hl : bs.length ≤ 9223372036854775807) :
    Calls Try.prog 17 #[.slice a bs.length c] w fun e w' => SaysRight bs e ∧ Below w.heap.size w w' := by
  go_enter Try.func17, Try.ntmps17
  go_wp2_with fail
  go_loopw [3] (fun iv wr => ∃ j : Nat, iv = .int .i64 j ∧ 1 ≤ j ∧ (j = 1 ∨ j ≤ bs.length) ∧ (∀ i, i + 1 < j → nth bs i < nth bs (i + 1)) ∧ ∃ nn, wr = w.drewN nn) (fun iv _ => bs.length - (intOf iv).toNat)
  case atStart => exact ⟨1, rfl, Nat.le_refl _, .inl rfl, fun i hi => by omega, 0, rfl⟩
  case round =>
    obtain ⟨j, rfl, hj1, hj, hadj, nn, rfl⟩ := hrel
    by_cases hlt : j < bs.length
    · obtain ⟨gb, ob, rfl, hgb, hcb⟩ := hr.2 (by omega)
      obtain ⟨i, hi⟩ : ∃ i, i = j - 1 := ⟨_, rfl⟩
      have hji : j = i + 1 := by omega
      have c1 := hcb j hlt
      have c0 := hcb i (by omega)
      have j0 : (j : Int) < (bs.length : Int) := by omega
      have j1 : (0 : Int) ≤ (j : Int) := by omega
      have j2 : (i : Int) < (bs.length : Int) := by omega
      have j3 : (0 : Int) ≤ (i : Int) := by omega
      have hwk : IntKind.i64.wrap ((j : Int) - 1) = (i : Int) := by rw [IntWalk.i64_in _ (by omega)]; omega
      have HJ := Lib.hid hji
      clear hcb hi hji
      by_cases hx : nth bs i < nth bs j
      · have HADJ := Lib.hid (show ∀ q, q + 1 < j + 1 → nth bs q < nth bs (q + 1) from fun q hq => by
          have hji := HJ.out
          by_cases e : q = i
          · subst e; rw [← hji]; exact hx
          · exact hadj q (by omega))
        clear hadj
        have hx' : ¬ nth bs j ≤ nth bs i := by omega
        generalize nth bs i = v0 at *
        generalize nth bs j = v1 at *
        clear hx
        go_wp2_with fail
        go_region
        all_goals
          go_wp2_with fail
          go_roundw
          case rel => exact ⟨j + 1, by go_num, by omega, by omega, HADJ.out, nn + 1, rfl⟩
          case measure => simp [intOf]; omega
      · have HNR := Lib.hid (show ¬ Right bs from fun h => hx (by have := HJ.out; rw [this]; exact h.1 i (by omega)))
        have hx' : nth bs j ≤ nth bs i := by omega
        clear hadj
        generalize nth bs i = v0 at *
        generalize nth bs j = v1 at *
        clear hx
        go_wp2_with fail
        go_region
        all_goals
          go_wp2_with fail
          go_ret
          exact ⟨.inr ⟨rfl, HNR.out⟩, below_drewN (Below.refl _ _) (nn + 1)⟩
    · have j0 : ¬ (j : Int) < (bs.length : Int) := by omega
      have HADJ := Lib.hid (show Adj bs from fun q hq => hadj q (by omega))
      clear hadj
      by_cases h1 : 1 ≤ bs.length
      · have h1' : (1 : Int) ≤ (bs.length : Int) := by omega
        by_cases h2 : bs.length ≤ 64
        · have h2' : (bs.length : Int) ≤ 64 := by omega
          go_wp2_with fail
          go_ret
          exact ⟨.inl ⟨rfl, HADJ.out, h1, h2⟩, below_drewN (Below.refl _ _) _⟩
        · have h2' : ¬ (bs.length : Int) ≤ 64 := by omega
          go_wp2_with fail
          go_ret
          exact ⟨.inr ⟨rfl, fun h => h2 h.2.2⟩, below_drewN (Below.refl _ _) _⟩
      · have h1' : ¬ (1 : Int) ≤ (bs.length : Int) := by omega
        go_wp2_with fail
        go_ret
        exact ⟨.inr ⟨rfl, fun h => h1 h.2.1⟩, below_drewN (Below.refl _ _) _⟩
theorem ref_place (w : World) (a : Option Addr) (c : Nat) (bs : List Int) (n : Int) (hr : Row .i64 w a bs.length bs) (hl : bs.length ≤ 9223372036854775807) :
    Calls Try.prog 20 #[.slice a bs.length c, .int .i64 n] w fun e w' => e = .returned (.int .i64 (place bs n)) ∧ w' = w := by
  go_enter Try.func20, Try.ntmps20
  go_wp2_with fail
  go_loopw [5, 6] (fun kv iv wr => ∃ i : Nat, i ≤ bs.length ∧ iv = .int .i64 i ∧ kv = .int .i64 (place (bs.take i) n : Nat) ∧ wr = w) (fun _ iv _ => bs.length - (intOf iv).toNat)
  case atStart => exact ⟨0, by omega, rfl, rfl, rfl⟩
  case round =>
    obtain ⟨i, hi, rfl, rfl, rfl⟩ := hrel
    by_cases hlt : i < bs.length
    · obtain ⟨gb, ob, rfl, hgb, hcb⟩ := hr.2 (by omega)
      have c0 := hcb i hlt
      have j0 : (i : Int) < (bs.length : Int) := by omega
      have j1 : (0 : Int) ≤ (i : Int) := by omega
      have HP := Lib.hid (place_take (bs := bs) n hlt)
      have hle := place_le (bs.take i) n
      have hle2 : (bs.take i).length ≤ bs.length := by rw [List.length_take]; omega
      clear hcb
      generalize place (bs.take i) n = k at *
      generalize nth bs i = v at *
      have hw1 : IntKind.i64.wrap ((k : Int) + 1) = ((k + 1 : Nat) : Int) := by rw [IntWalk.i64_in _ (by rw [List.length_take] at hle; omega)]; omega
      by_cases hx : v < n
      · go_wp2_with fail
        go_roundw
        case rel => exact ⟨i + 1, by omega, by go_num, by rw [HP.out, if_pos hx]; first | done | rfl | (push_cast; rfl), by first | trivial | rfl⟩
        case measure => simp [intOf]; omega
      · go_wp2_with fail
        go_roundw
        case rel => exact ⟨i + 1, by omega, by go_num, by rw [HP.out, if_neg hx]; rfl, by first | trivial | rfl⟩
        case measure => simp [intOf]; omega
    · obtain rfl : i = bs.length := by omega
      have HP := Lib.hid (show bs.take bs.length = bs from List.take_length)
      go_wp2_with fail
      go_ret
      exact ⟨ret_int (by rw [HP.out]), by first | trivial | rfl⟩
theorem ref_count (w : World) (a b : Option Addr) (c d : Nat) (bs ls : List Int) (p : Int) (hr : Row .i64 w a bs.length bs) (hl : Row .i64 w b ls.length ls) (hbl : bs.length ≤ 9223372036854775807) (hll : ls.length ≤ 9223372036854775807) (hp : 0 ≤ p) :
    Calls Try.prog 53 #[.slice a bs.length c, .slice b ls.length d, .int .i64 p] w fun e w' => e = .returned (.int .i64 (cnt bs ls p.toNat)) ∧ w' = w := by
  obtain ⟨p, rfl⟩ : ∃ q : Nat, p = q := ⟨p.toNat, by omega⟩
  have pP := Lib.hid (fun x => ref_place w a c bs x hr hbl)
  go_enter Try.func53, Try.ntmps53
  go_wp2_with fail
  go_loopw [7, 8] (fun kv iv wr => ∃ i : Nat, i ≤ ls.length ∧ iv = .int .i64 i ∧ kv = .int .i64 (cnt bs (ls.take i) p : Nat) ∧ wr = w) (fun _ iv _ => ls.length - (intOf iv).toNat)
  case atStart => exact ⟨0, by omega, rfl, rfl, rfl⟩
  case round =>
    obtain ⟨i, hi, rfl, rfl, rfl⟩ := hrel
    by_cases hlt : i < ls.length
    · obtain ⟨gb, ob, rfl, hgb, hcb⟩ := hl.2 (by omega)
      have c0 := hcb i hlt
      have j0 : (i : Int) < (ls.length : Int) := by omega
      have j1 : (0 : Int) ≤ (i : Int) := by omega
      have HP := Lib.hid (cnt_take (bs := bs) p hlt)
      have hle := cnt_le bs (ls.take i) p
      clear hcb hr hl
      generalize cnt bs (ls.take i) p = k at *
      generalize nth ls i = v at *
      have hw1 : IntKind.i64.wrap ((k : Int) + 1) = ((k + 1 : Nat) : Int) := by rw [IntWalk.i64_in _ (by rw [List.length_take] at hle; omega)]; omega
      have pv := Lib.hid (pP.out v)
      generalize place bs v = m at *
      go_wp2_with fail
      refine pv.out.mono ?_
      rintro e w' ⟨rfl, rfl⟩
      by_cases hx : m = p
      · subst hx
        go_wp2_with fail
        go_roundw
        case rel => exact ⟨i + 1, by omega, by go_num, by rw [HP.out]; simp, by first | trivial | rfl⟩
        case measure => simp [intOf]; omega
      · have hx' : ¬ (m : Int) = (p : Int) := by omega
        go_wp2_with fail
        go_roundw
        case rel => exact ⟨i + 1, by omega, by go_num, by rw [HP.out, if_neg hx]; rfl, by first | trivial | rfl⟩
        case measure => simp [intOf]; omega
    · obtain rfl : i = ls.length := by omega
      have HP := Lib.hid (show ls.take ls.length = ls from List.take_length)
      go_wp2_with fail
      go_ret
      exact ⟨ret_int (by rw [HP.out]; rfl), by first | trivial | rfl⟩
end Go.Proofs.Ytmceaffoffemlaa.Met
