/-
  Elements of several cells, one behind the other. Over any program.
-/
import Derived.Test.YtmceaffoffemlaaKit
namespace Go.Proofs.Ytmceaffoffemlaa
open Go.RowKit

def flat {α : Type} (cs : α → List Value) (l : List α) : List Value := l.flatMap cs
section
variable {α : Type} {cs : α → List Value} {s : Nat}
theorem flat_len (hs : ∀ x, (cs x).length = s) (l : List α) : (flat cs l).length = l.length * s := by
  induction l with
  | nil => simp [flat]
  | cons x l ih =>
    unfold flat at ih ⊢
    rw [List.flatMap_cons, List.length_append, ih, hs, List.length_cons, Nat.add_mul]; omega
theorem flat_snoc (l : List α) (x : α) : flat cs (l ++ [x]) = flat cs l ++ cs x := by simp [flat]
theorem flat_app (l m : List α) : flat cs (l ++ m) = flat cs l ++ flat cs m := by simp [flat]
theorem flat_drop (hs : ∀ x, (cs x).length = s) (l : List α) (k : Nat) : (flat cs l).drop (k * s) = flat cs (l.drop k) := by
  by_cases hk : k ≤ l.length
  · conv => lhs; rw [← List.take_append_drop k l, flat_app]
    have : (flat cs (l.take k)).length = k * s := by rw [flat_len hs, List.length_take, Nat.min_eq_left hk]
    rw [← this]
    exact List.drop_left
  · rw [List.drop_of_length_le (by rw [flat_len hs]; exact Nat.mul_le_mul_right _ (by omega)), List.drop_of_length_le (by omega)]; rfl
theorem flat_take (hs : ∀ x, (cs x).length = s) (l : List α) (k : Nat) : (flat cs l).take (k * s) = flat cs (l.take k) := by
  by_cases hk : k ≤ l.length
  · conv => lhs; rw [← List.take_append_drop k l, flat_app]
    have : (flat cs (l.take k)).length = k * s := by rw [flat_len hs, List.length_take, Nat.min_eq_left hk]
    rw [← this]
    exact List.take_left
  · rw [List.take_of_length_le (by rw [flat_len hs]; exact Nat.mul_le_mul_right _ (by omega)), List.take_of_length_le (by omega)]
theorem flat_get (hs : ∀ x, (cs x).length = s) (l : List α) {j i : Nat} {x : α} (hj : l[j]? = some x) (hi : i < s) : (flat cs l)[j * s + i]? = (cs x)[i]? := by
  have hjl := (List.getElem?_eq_some_iff.1 hj).1
  have h1 := flat_drop hs l j
  rw [← List.getElem?_drop, h1]
  have h2 : l.drop j = x :: l.drop (j + 1) := by
    rw [List.drop_eq_getElem_cons hjl]
    rw [List.getElem?_eq_getElem hjl] at hj
    cases hj; rfl
  rw [h2]
  unfold flat
  rw [List.flatMap_cons, List.getElem?_append_left (by rw [hs]; exact hi)]
theorem one_flat (h : ∀ x, ∀ u ∈ cs x, u.oneCell' = true) (l : List α) : ∀ u ∈ flat cs l, u.oneCell' = true := by
  intro u hu
  obtain ⟨x, _, hx⟩ := List.mem_flatMap.1 hu
  exact h x u hx
end
/-- The source is the end of a slice at a block's head. -/
theorem src_drop_n {w : World} {e : TypeId} {size g n cap : Nat} {xs : List Value} (h : On w e size (.slice (some ⟨g, 0, none⟩) n cap) n xs) (k : Nat) : Src w (some ⟨g, k * size, none⟩) (n - k) (xs.drop (k * size)) := by
  refine .inr ⟨_, rfl, fun j u hu => ?_⟩
  rcases h.form with ⟨hv, _⟩ | ⟨g', cap', hv, _, _, _, _, hc, _⟩
  · cases hv
  · cases hv
    have hadd : (⟨g, k * size, none⟩ : Addr).add j = ⟨g, k * size + j, none⟩ := by unfold Addr.add; split <;> simp_all
    rw [hadd]
    exact hc _ u (by rw [← hu, List.getElem?_drop])
/-- The source is a block just laid. -/
theorem src_new (w : World) (e : TypeId) (size : Nat) (cs : List Value) : Src (w.alloc (.cells cs.toArray e)) (some ⟨w.heap.size, 0, none⟩) size cs := by
  refine .inr ⟨_, rfl, fun j u hu => ?_⟩
  have hadd : (⟨w.heap.size, 0, none⟩ : Addr).add j = ⟨w.heap.size, j, none⟩ := by unfold Addr.add; split <;> simp_all
  rw [hadd, (Blk.new w e cs.toArray).cell j]
  simpa using hu
end Go.Proofs.Ytmceaffoffemlaa
