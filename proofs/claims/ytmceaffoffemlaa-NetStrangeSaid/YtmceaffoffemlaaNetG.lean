/-
  backstayref01.Same at two slices with the same bytes.
-/
import Derived.Test.YtmceaffoffemlaaKit
import Derived.Test.YtmceaffoffemlaaProg
namespace Go.Proofs.Ytmceaffoffemlaa.Netw
open Go.RowKit
set_option linter.all false

set_option maxRecDepth 100000 in
set_option maxHeartbeats 2000000 in
theorem same_bytes (w : World) (a b : Option Addr) (l c c' : Nat) (zs : List Int) (ha : Row .u8 w a l zs) (hb : Row .u8 w b l zs) (hl : l ≤ 9223372036854775807) :
    Calls Try.prog 14 #[.slice a l c, .slice b l c'] w fun e w' => e = .returned (.bool true) ∧ Below w.heap.size w w' := by
  go_enter Try.func14, Try.ntmps14
  go_wp2_with fail
  go_loopw [5] (fun i wr => ∃ k : Nat, k ≤ l ∧ i = .int .i64 k ∧ ∃ nn, wr = w.drewN nn) (fun i _ => l - (intOf i).toNat)
  case atStart => exact ⟨0, Nat.zero_le _, rfl, 0, rfl⟩
  case round =>
    obtain ⟨k, hk, rfl, nn, rfl⟩ := hrel
    by_cases hlt : k < l
    · obtain ⟨ga, oa, rfl, hga, ca⟩ := ha.2 (by omega)
      obtain ⟨gb, ob, rfl, hgb, cb⟩ := hb.2 (by omega)
      have r1 := ca k hlt
      have r2 := cb k hlt
      have i1 : (0 : Int) ≤ (k : Int) := by omega
      have i2 : (k : Int) < (l : Int) := by omega
      clear ca cb ha hb
      generalize nth zs k = vv at r1 r2
      go_wp2_with fail
      go_quiet (fail)
      go_wp2_with fail
      go_roundw
      case rel => exact ⟨k + 1, by omega, by go_num, _, rfl⟩
      case measure => simp [intOf]; omega
    · obtain rfl : k = l := by omega
      go_wp2_with fail
      go_ret
      exact ⟨rfl, below_drewN (Below.refl _ _) _⟩
end Go.Proofs.Ytmceaffoffemlaa.Netw
