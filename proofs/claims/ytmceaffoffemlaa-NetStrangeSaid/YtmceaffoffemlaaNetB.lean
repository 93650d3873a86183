/-
  net: the walk of Flight.
-/
import Derived.Test.YtmceaffoffemlaaNet
namespace Go.Proofs.Ytmceaffoffemlaa.Netw
open Go.RowKit
set_option linter.all false

set_option maxHeartbeats 2000000 in
theorem flight_any (w : World) (n l0 l1 l2 l3 c0 c1 c2 c3 : Nat) (a0 a1 a2 a3 : Option Addr) (h0 : w.cell? ⟨n, 0, none⟩ = some (.slice a0 l0 c0)) (h1 : w.cell? ⟨n, 1, none⟩ = some (.slice a1 l1 c1)) (h2 : w.cell? ⟨n, 2, none⟩ = some (.slice a2 l2 c2)) (h3 : w.cell? ⟨n, 3, none⟩ = some (.slice a3 l3 c3))
    (b0 : l0 ≤ 1000000) (b1 : l1 ≤ 1000000) (b2 : l2 ≤ 1000000) (b3 : l3 ≤ 1000000) :
    Calls Try.prog 46 #[.pointer (some ⟨n, 0, none⟩)] w fun e w' => e = .returned (.int .i64 ((l0 : Int) + l1 + l2 + l3)) ∧ w = w' := by
  go_enter Try.func46, Try.ntmps46
  go_wp2_with fail
  go_loop [3, 6] (fun m r => (r = .int .i64 0 ∧ m = .int .i64 0) ∨ (r = .int .i64 1 ∧ m = .int .i64 ((l0 : Int) + l1)) ∨ (r = .int .i64 2 ∧ m = .int .i64 ((l0 : Int) + l1 + l2 + l3))) (fun _ r => 2 - (intOf r).toNat)
  case atStart => exact .inl ⟨rfl, rfl⟩
  case round =>
    rcases hrel with ⟨rfl, rfl⟩ | ⟨rfl, rfl⟩ | ⟨rfl, rfl⟩
    · go_wp2_with fail
      go_loop [3, 9] (fun m q => (q = .int .i64 0 ∧ m = .int .i64 0) ∨ (q = .int .i64 1 ∧ m = .int .i64 (l0 : Int)) ∨ (q = .int .i64 2 ∧ m = .int .i64 ((l0 : Int) + l1))) (fun _ q => 2 - (intOf q).toNat)
      case atStart => exact .inl ⟨rfl, rfl⟩
      case round =>
        rcases hrel with ⟨rfl, rfl⟩ | ⟨rfl, rfl⟩ | ⟨rfl, rfl⟩
        · go_wp2_with fail
          go_round
          case rel => exact .inr (.inl ⟨rfl, by go_num⟩)
          case measure => simp [intOf]
        · go_wp2_with fail
          go_round
          case rel => exact .inr (.inr ⟨rfl, by go_num⟩)
          case measure => simp [intOf]
        · go_wp2_with fail
          go_round
          case rel => exact .inr (.inl ⟨rfl, rfl⟩)
          case measure => simp [intOf]
    · go_wp2_with fail
      go_loop [3, 9] (fun m q => (q = .int .i64 0 ∧ m = .int .i64 ((l0 : Int) + l1)) ∨ (q = .int .i64 1 ∧ m = .int .i64 ((l0 : Int) + l1 + l2)) ∨ (q = .int .i64 2 ∧ m = .int .i64 ((l0 : Int) + l1 + l2 + l3))) (fun _ q => 2 - (intOf q).toNat)
      case atStart => exact .inl ⟨rfl, rfl⟩
      case round =>
        rcases hrel with ⟨rfl, rfl⟩ | ⟨rfl, rfl⟩ | ⟨rfl, rfl⟩
        · go_wp2_with fail
          go_round
          case rel => exact .inr (.inl ⟨rfl, by go_num⟩)
          case measure => simp [intOf]
        · go_wp2_with fail
          go_round
          case rel => exact .inr (.inr ⟨rfl, by go_num⟩)
          case measure => simp [intOf]
        · go_wp2_with fail
          go_round
          case rel => exact .inr (.inr ⟨rfl, rfl⟩)
          case measure => simp [intOf]
    · go_wp2_with fail
      go_ret
      exact ⟨rfl, rfl⟩
end Go.Proofs.Ytmceaffoffemlaa.Netw
