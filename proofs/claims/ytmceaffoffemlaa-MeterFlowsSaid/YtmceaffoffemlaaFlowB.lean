/-
  meter.Flow: NewFlow, Add, Tick.
-/
import Derived.Test.YtmceaffoffemlaaFlow
namespace Go.Proofs.Ytmceaffoffemlaa.Flow
open Go.RowKit
set_option linter.all false

/-- What a call leaves. -/
def Left (w : World) (f r : Nat) (sv : Value) (W : World) (sv' : Value) : Prop := Touch (fun k => k = f ∨ RingI64.fp r sv k) w W ∧ ∀ k, RingI64.fp r sv' k → RingI64.fp r sv k ∨ w.heap.size ≤ k
theorem new_flow_ok (w : World) (t : Nat) (h1 : 1 ≤ t) (h2 : t ≤ 256) :
    Calls Try.prog 30 #[.int .i64 t] w fun e w' => e = .returned (.tuple #[.pointer (some ⟨w.heap.size + 1, 0, none⟩), .int .i64 0]) ∧ FAt w' (w.heap.size + 1) w.heap.size (.slice none 0 0) t [] 0 0 0 0 ∧ Below w.heap.size w w' := by
  have p := Lib.hid (RingI64.new_ok (t : Int) w (by omega) (by omega))
  have j1 : ¬ (t : Int) < 1 := by omega
  have j2 : ¬ (256 : Int) < (t : Int) := by omega
  go_enter Try.func30, Try.ntmps30
  go_wp2_with fail
  refine p.out.mono ?_
  rintro e w' ⟨rfl, hw⟩
  subst hw
  go_wp2_with fail
  go_ret2
  have hr := RingI64.at_new w (t : Int)
  refine ⟨rfl, ⟨?_, ?_⟩, ?_⟩
  · have := Blk.new (w.alloc (.cells #[.int .i64 t, .int .i64 0, .slice none 0 0] 133)) 116 #[.pointer (some ⟨w.heap.size, 0, none⟩), .int .i64 0, .int .i64 0, .int .i64 0, .int .i64 0]
    simpa using this
  · have e : last t [] = [] := by simp [last]
    rw [e]
    exact hr.alloc _
  · exact ((Below.refl _ w).alloc (Nat.le_refl _) _).alloc (by simp) _
theorem new_flow_no (w : World) (t : Int) (h : t < 1 ∨ 256 < t) :
    Calls Try.prog 30 #[.int .i64 t] w fun e w' => e = .returned (.tuple #[.pointer none, .int .i64 1]) ∧ w = w' := by
  by_cases j1 : t < 1
  · clear h
    go_enter Try.func30, Try.ntmps30
    go_wp2_with fail
    go_ret2
    exact ⟨rfl, rfl⟩
  · have j2 : 256 < t := by omega
    clear h
    go_enter Try.func30, Try.ntmps30
    go_wp2_with fail
    go_ret2
    exact ⟨rfl, rfl⟩

set_option maxRecDepth 100000 in
set_option maxHeartbeats 4000000 in
theorem add_any (w : World) (f r t : Nat) (sv : Value) (L : List Int) (now sum peak all n m : Int) (h : FAt w f r sv t L now sum peak all) (hm : m = max 0 (min n 1099511627776)) (h1 : 0 ≤ now ∧ now ≤ 4611686018427387904) (h2 : 0 ≤ all ∧ all ≤ 4611686018427387904) :
    Calls Try.prog 33 #[.pointer (some ⟨f, 0, none⟩), .int .i64 n] w fun e w' => e = .returned (.tuple #[]) ∧ FAt w' f r sv t L (now + m) sum peak (all + m) ∧ Left w f r sv w' sv := by
  obtain ⟨⟨c0, c1, c2, c3, c4⟩, fr⟩ := h.cells
  have f1 := fr 1
  have f4 := fr 4
  have hm2 : 0 ≤ m ∧ m ≤ 1099511627776 := by omega
  have hw1 : IntKind.i64.wrap (now + m) = now + m := IntWalk.i64_in _ (by omega)
  have hw2 : IntKind.i64.wrap (all + m) = all + m := IntWalk.i64_in _ (by omega)
  have p := Lib.hid (fun W => (held_any W n m hm).mono (R' := fun e w'' => e = .returned (.int .i64 m) ∧ w'' = W) (fun _ _ h => ⟨h.1, h.2.symm⟩))
  have H := Lib.hid h
  clear h hm fr
  go_enter Try.func33, Try.ntmps33
  go_upto_region 0 with fail
  refine wp_region_still_tail 9 (by kernel_rfl) (by kernel_rfl) ?_
  simp only [List.take_succ_cons, List.take_zero, List.drop_succ_cons, List.drop_zero]
  repeat (first | still_step | still_call (p.out _))
  refine wpStill_nil ?_
  change wpList _ _ _ _ _ w.drew
  go_upto_region 1 with fail
  have H2 := (H.out.set 1 (.int .i64 (now + m)) (now' := now + m) (sum' := sum) (peak' := peak) (all' := all) rfl).below (below_drewN (Below.refl _ _) 1)
  have T2 : Touch (fun k => k = f ∨ RingI64.fp r sv k) w (w.setCell ⟨f, 1, none⟩ (.int .i64 (now + m))).drew := ((Touch.refl _ w).setCell (.inl (.inl rfl)) _).drew
  have e2 : (w.setCell ⟨f, 1, none⟩ (.int .i64 (now + m))).drewN 1 = (w.setCell ⟨f, 1, none⟩ (.int .i64 (now + m))).drew := rfl
  rw [e2] at H2
  clear e2 c0 c1 c2 c3 c4 f1 f4
  generalize (w.setCell ⟨f, 1, none⟩ (.int .i64 (now + m))).drew = w2 at *
  obtain ⟨⟨c0, c1, c2, c3, c4⟩, fr⟩ := H2.cells
  have f4 := fr 4
  have H2 := Lib.hid H2
  clear fr
  refine wp_region_still_tail 9 (by kernel_rfl) (by kernel_rfl) ?_
  simp only [List.take_succ_cons, List.take_zero, List.drop_succ_cons, List.drop_zero]
  repeat (first | still_step | still_call (p.out _))
  refine wpStill_nil ?_
  change wpList _ _ _ _ _ w2.drew
  go_wp2_with fail
  go_end0
  refine ⟨rfl, (H2.out.set 4 (.int .i64 (all + m)) rfl).below (below_drewN (Below.refl _ _) 1), (T2.setCell (.inl (.inl rfl)) _).drew, fun k hk => .inl hk⟩
end Go.Proofs.Ytmceaffoffemlaa.Flow
