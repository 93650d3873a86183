/-
  For every input, every schedule and every memory: backstaylaw36.DifferBehind returns true, and each argument reads afterwards as before. No condition.
-/
import Derived.Test.YtlhoffhagfhbcaaBDifferBehind1
import Derived.Test.YtlhoffhagfhbcaaRows
import Derived.ProofKit
import Derived.OpenShut
import Derived.ShutString
import Derived.ChangeOld
import Derived.Lib.SmallJoins
namespace Go.Proofs.Ytlhoffhagfhbcaa.lawDifferBehind
open Go.ChangeShapes Go.WideShapes Go.ChangeAt Go.RowKit Go.Joins
set_option linter.unusedVariables false

theorem own : ownKnob Try.prog.godebug = none := by kernel_rfl
theorem laidOut : laidOutB Try.prog = true := by kernel_rfl

set_option maxRecDepth 100000 in
set_option maxHeartbeats 1000000 in
theorem lifted (os : Os) (started : os.Started) (H : Type) (enc : TypeId × Value → H) :
    ReturnsInHanded {} Try.checked os 6 .any (Rows.differBehindSpec.pre6 enc Try.prog Try.f6 Rows.differBehindRow.domain false) (Rows.differBehindSpec.post enc Try.prog Try.f6 false true false false) := by
  refine returnsInHanded_of_change (C := Try.checked) own started (by kernel_rfl) Try.func6
    (ChangeSpec.witness6 (enc := enc) (C := Try.checked) false ⟨#[], #[.agg #[.int .u32 0, .slice none 0 0], .agg #[.int .u32 0, .slice none 0 0]], []⟩ 8 (by kernel_rfl) (by kernel_rfl) (by kernel_rfl) (by kernel_rfl)) ?_
  intro W base args ds gs before hval0 hW hcnd hsz0
  have hval : ∀ (j : Nat) t v, Try.f6.params[j]? = some t → args[j]? = some v → Value.okWide Try.prog W .any base t v := hval0
  have hW' := hW
  obtain ⟨p, q, hA0, hV, rfl, hfz, hnd⟩ := hW
  have hA : DataW.TrodAll enc Try.prog W 0 (fun _ => true) true Try.f6.params.toList args.toList ds p := hA0
  rw [Try.params6] at hA hval
  obtain ⟨v0, vs0, d0, ds0, p0, q0, hargs, rfl, rfl, h0, r0⟩ := trodAll_cons hA
  obtain ⟨v1, vs1, d1, ds1, p1, q1, rfl, rfl, rfl, h1, r1⟩ := trodAll_cons r0
  obtain ⟨rfl, rfl, rfl⟩ := trodAll_nil r1
  obtain rfl : args = #[v0, v1] := by cases args; simp_all
  obtain ⟨rfl, rfl⟩ := trodVars_none hV
  have k0 := h0
  have lt0 : ∀ x ∈ p0, x.block < W.heap.size := by obtain ⟨m, hm⟩ := k0; exact DataW.trod_lt m _ _ _ hm
  have k1 := h1
  have lt1 : ∀ x ∈ p1, x.block < W.heap.size := by obtain ⟨m, hm⟩ := k1; exact DataW.trod_lt m _ _ _ hm
  obtain ⟨sd0, x0, c0, ls0, rfl, hsd0, hrow0, hl0, hm0, hn0⟩ := I2.open_tape2 Try.underlying49 (by kernel_rfl) (by kernel_rfl) Try.underlying22 Try.underlying47 Try.underlying69 Try.underlying68 (by kernel_rfl) (by kernel_rfl) (hval 0 49 v0 rfl rfl) h0
  have hm0 : c0 ≤ 9223372036854775807 := by simp only [maxLen] at hm0; omega
  obtain ⟨sd1, x1, c1, ls1, rfl, hsd1, hrow1, hl1, hm1, hn1⟩ := I2.open_tape2 Try.underlying49 (by kernel_rfl) (by kernel_rfl) Try.underlying22 Try.underlying47 Try.underlying69 Try.underlying68 (by kernel_rfl) (by kernel_rfl) (hval 1 49 v1 rfl rfl) h1
  have hm1 : c1 ≤ 9223372036854775807 := by simp only [maxLen] at hm1; omega
  clear hA0 hval0
  refine (Dif.behind_law W sd0 sd1 hsd0 hsd1 x0 x1 c0 c1 ls0 ls1 hrow0 hrow1 hl0 hl1 hm0 hm1 hn0 hn1).mono fun e W' ⟨he, bel⟩ => ?_
  subst he
  exact ⟨_, rfl, _, _, _, [], _, [], hW', trodAll_mk1 (shut_bool Try.underlying4 _), (trodAll_cons_mk (Below.trod laidOut (by kernel_rfl) (of_decide_eq_true (by kernel_rfl)) k0 bel lt0) (trodAll_cons_mk (Below.trod laidOut (by kernel_rfl) (of_decide_eq_true (by kernel_rfl)) k1 bel lt1) trodAll_mk0)), rfl, bel.frame _, fun h => by cases h⟩

theorem over : Rows.differBehindRow.holds Try.pinned (OpenSpec.ofChange Rows.differBehindSpec) :=
  OpenClaim.holds_of_wide 6 Try.f6 rfl rfl rfl rfl rfl rfl rfl ⟨rfl, rfl, rfl, rfl, rfl⟩ rfl rfl rfl rfl rfl (by kernel_rfl) Try.func6 (by kernel_rfl)
    (of_decide_eq_true (by kernel_rfl)) (by unfold Func.isWrapper; first | (rw [if_pos (by decide +kernel)]; kernel_rfl) | (rw [if_neg (by decide +kernel)]; exact ⟨rfl, rfl⟩))
    (fun os started H enc _ => lifted os started H enc)

theorem proved : Rows.DifferBehindSaid := over
#print axioms proved
end Go.Proofs.Ytlhoffhagfhbcaa.lawDifferBehind
