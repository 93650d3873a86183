/-
  The document's game: Born.
-/
import Derived.Test.YtblnfkhaicjeaaaGs
namespace Go.Proofs.Ytblnfkhaicjeaaa.Gm
open Go.RowKit Go.Proofs.Ytblnfkhaicjeaaa.Num
set_option linter.all false

set_option maxRecDepth 100000 in
set_option maxHeartbeats 4000000 in
theorem rborn_any (w : World) (i : Nat) (hi : i < 2) :
    Calls Try.prog 55 #[.int .i64 i] w fun e w' => e = .returned (bodV (bornB i)) ∧ Below w.heap.size w w' := by
  have e : i = 0 ∨ i = 1 := by omega
  rcases e with rfl | rfl
  all_goals
    clear hi
    go_enter Try.func55, Try.ntmps55
    go_wp2_with fail
    refine bodyPost_ret (v := bodV (bornB _)) (by simp [results, Try.results55, go_sem, bodV, bodL, bornB]) rfl ⟨rfl, ?_⟩
    repeat (refine Below.setCell ?_ (by simp) _)
    exact (Below.refl _ _).alloc (Nat.le_refl _) _
end Go.Proofs.Ytblnfkhaicjeaaa.Gm
