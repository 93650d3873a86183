/-
  Reading arguments: two plans.
-/
import Derived.Test.YtblnfkhaicjeaaaOpenSt
namespace Go.Proofs.Ytblnfkhaicjeaaa.Bot
open Go.RowKit Go.WideShapes Go.ChangeShapes Go.Proofs.Ytblnfkhaicjeaaa.Eql
set_option linter.all false

theorem key63 : Try.prog.keyTypeAt 6 63 = true := by kernel_rfl
theorem tiled63 : Try.prog.tiled 6 63 = true := by kernel_rfl
theorem lits63 : Try.prog.keyLits 6 63 [.int .i64 0, .int .u32 0, .int .i64 0, .int .i64 0, .int .u32 0, .int .i64 0] = some [.int .i64 0, .int .u32 0, .int .i64 0, .int .i64 0, .int .u32 0, .int .i64 0] := by kernel_rfl
theorem int_like {x : Lit} {k : IntKind} {n : Int} (h : x.sameKind (.int k n)) : ∃ m, x = .int k m := by
  cases x <;> simp [Lit.sameKind] at h
  subst h
  exact ⟨_, rfl⟩
theorem plans_of_lits {cs : List Value} {l : List Lit} (hk : Try.prog.keyLits 6 63 cs = some l) :
    ∃ a0 s0 b0 a1 s1 b1 : Int, cs = [.int .i64 a0, .int .u32 s0, .int .i64 b0, .int .i64 a1, .int .u32 s1, .int .i64 b1] ∧ (0 ≤ s0 ∧ s0 < 4294967296) ∧ (0 ≤ s1 ∧ s1 < 4294967296) := by
  have e := cells_of_lits 6 _ tiled63 _ _ _ hk
  have hal := keyLits_alike hk lits63
  have w := keyLits_wf hk
  match l, hal, e, w with
  | [x0, x1, x2, x3, x4, x5], ⟨h0, h1, h2, h3, h4, h5, _⟩, e, w =>
    obtain ⟨a0, rfl⟩ := int_like h0
    obtain ⟨s0, rfl⟩ := int_like h1
    obtain ⟨b0, rfl⟩ := int_like h2
    obtain ⟨a1, rfl⟩ := int_like h3
    obtain ⟨s1, rfl⟩ := int_like h4
    obtain ⟨b1, rfl⟩ := int_like h5
    exact ⟨a0, s0, b0, a1, s1, b1, e, I2.bounds_u32 (w (.int .u32 s0) (by simp)), I2.bounds_u32 (w (.int .u32 s1) (by simp))⟩
theorem open_plans {H : Type} {enc : TypeId × Value → H} {W : World} {base : Nat} {spare : Nat → Bool} {held : Bool} {r : Reach} {b0 : Nat} {v : Value} {d : DataW H} {p : List MemPlace}
    (hv : Value.okWide Try.prog W r b0 63 v) (h : DataW.Trod enc Try.prog W base spare held 63 v d p) :
    ∃ a0 s0 b0 a1 s1 b1 : Int, v = .agg #[.int .i64 a0, .int .u32 s0, .int .i64 b0, .int .i64 a1, .int .u32 s1, .int .i64 b1] ∧ (0 ≤ s0 ∧ s0 < 4294967296) ∧ (0 ≤ s1 ∧ s1 < 4294967296) := by
  obtain ⟨fuel, hf⟩ := h
  obtain ⟨hk, _⟩ := keyLits_of_trod 6 _ key63 _ _ _ hf
  obtain ⟨a0, s0, b0, a1, s1, b1, e, h0, h1⟩ := plans_of_lits hk
  have hu := Try.underlying63
  simp only [Value.okWide, hu] at hv
  obtain ⟨cs, rfl, _, _⟩ := hv
  refine ⟨a0, s0, b0, a1, s1, b1, ?_, h0, h1⟩
  have e2 : cs.toList = [.int .i64 a0, .int .u32 s0, .int .i64 b0, .int .i64 a1, .int .u32 s1, .int .i64 b1] := e
  exact congrArg Value.agg (Array.ext' e2)
end Go.Proofs.Ytblnfkhaicjeaaa.Bot
