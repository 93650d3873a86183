/-
  == on structs and arrays of bools and integers, to whatever depth: yes just if the cells are the same. Over any program.
-/
import Derived.Test.YtblnfkhaicjeaaaKit
import Derived.DeepKeys
import Derived.DeepKeys2
import Derived.ChangeKeysEq
import Derived.Laws.StructEq
namespace Go.Proofs.Ytblnfkhaicjeaaa.Eql
open Go.RowKit Go.WideShapes
set_option linter.all false

/-- Two cells of one kind, the second one as it may be. -/
def OneK (a b : Value) : Prop := (∃ x y, a = .bool x ∧ b = .bool y) ∨ (∃ k x y, a = .int k x ∧ b = .int k y ∧ (Lit.int k y).wf = true)
def SameK (cs cs' : List Value) : Prop := cs.length = cs'.length ∧ ∀ (i : Nat) (a b : Value), cs[i]? = some a → cs'[i]? = some b → OneK a b
theorem SameK.drop {cs cs' : List Value} (h : SameK cs cs') (n : Nat) : SameK (cs.drop n) (cs'.drop n) :=
  ⟨by simp [h.1], fun i a b ha hb => h.2 (n + i) a b (by rwa [List.getElem?_drop] at ha) (by rwa [List.getElem?_drop] at hb)⟩
theorem SameK.take {cs cs' : List Value} (h : SameK cs cs') (n : Nat) : SameK (cs.take n) (cs'.take n) :=
  ⟨by simp [h.1], fun i a b ha hb => by
    rw [List.getElem?_take] at ha hb
    split at ha
    · rename_i hi
      rw [if_pos hi] at hb
      exact h.2 i a b ha hb
    · cases ha⟩
theorem mapM_some {α : Type} {f g : α → Option (List Lit)} : ∀ (L : List α), (∀ x ∈ L, (f x).isSome = true → (g x).isSome = true) → (L.mapM f).isSome = true → (L.mapM g).isSome = true
  | [], _, _ => rfl
  | x :: r, h, hf => by
    rw [List.mapM_cons] at hf ⊢
    cases hx : f x with
    | none => simp [hx] at hf
    | some a =>
      cases hr : r.mapM f with
      | none => simp [hx, hr] at hf
      | some b =>
        obtain ⟨a', ha'⟩ := Option.isSome_iff_exists.1 (h x (by simp) (by rw [hx]; rfl))
        obtain ⟨b', hb'⟩ := Option.isSome_iff_exists.1 (mapM_some r (fun y hy => h y (by simp [hy])) (by rw [hr]; rfl))
        simp [ha', hb']
section
variable {P : Program}
theorem lits_same : ∀ (D : Nat) (t : TypeId) (cs cs' : List Value), SameK cs cs' → (P.keyLits D t cs).isSome = true → (P.keyLits D t cs').isSome = true
  | 0, _, _, _, _, h => by simp [Program.keyLits] at h
  | D + 1, t, cs, cs', hs, h => by
    cases hu : P.underlying t with
    | none => simp [Program.keyLits, hu] at h
    | some kd =>
      obtain ⟨l, hl⟩ := Option.isSome_iff_exists.1 h
      have one : ∀ v, cs = [v] → ∃ v', cs' = [v'] ∧ OneK v v' := by
        intro v e
        subst e
        have h1 := hs.1
        match cs', h1, hs with
        | [v'], _, hs => exact ⟨v', rfl, hs.2 0 v v' rfl rfl⟩
      cases kd with
      | bool =>
        obtain ⟨b, e, _⟩ := keyLits_bool' hu hl
        obtain ⟨v', e', h1⟩ := one _ e
        subst e'
        rcases h1 with ⟨x, y, _, rfl⟩ | ⟨k, x, y, e1, _⟩
        · simp [Program.keyLits, hu]
        · cases e1
      | int q =>
        obtain ⟨n, e, _⟩ := keyLits_int' hu hl
        obtain ⟨v', e', h1⟩ := one _ e
        subst e'
        rcases h1 with ⟨x, y, e1, _⟩ | ⟨k, x, y, e1, rfl, hw⟩
        · cases e1
        · cases e1
          simp [Program.keyLits, hu, hw]
      | string =>
        obtain ⟨s, e, _⟩ := keyLits_string' hu hl
        obtain ⟨v', e', h1⟩ := one _ e
        rcases h1 with ⟨x, y, e1, _⟩ | ⟨k, x, y, e1, _⟩ <;> cases e1
      | array n e =>
        simp only [Program.keyLits, hu] at h ⊢
        rw [hs.1] at h
        split at h
        · rename_i hc
          rw [if_pos hc]
          rw [Option.isSome_map] at h ⊢
          exact mapM_some _ (fun i _ => lits_same D e _ _ ((hs.drop _).take _)) h
        · simp at h
      | struct fs =>
        simp only [Program.keyLits, hu] at h ⊢
        rw [hs.1] at h
        split at h
        · rename_i hc
          rw [if_pos hc]
          rw [Option.isSome_map] at h ⊢
          exact mapM_some _ (fun f _ => lits_same D f.type _ _ ((hs.drop _).take _)) h
        · simp at h
      | _ => simp [Program.keyLits, hu] at h
/-- The comparison. -/
theorem eql_run (w : World) {m : Nat} (hm : m ≤ 10000) {t : TypeId} (hk : P.keyTypeAt m t = true) (ht : P.tiled m t = true)
    (hwide : (match P.underlying t with | some (.array _ _) | some (.struct _) => true | _ => false) = true)
    (z : List Value) {D : Nat} (hz : (P.keyLits D t z).isSome = true) (hzl : z.length = P.cellsOf t) {xs ys : Array Value} (hx : SameK z xs.toList) (hy : SameK z ys.toList) :
    ∃ r : Bool, (Op.equalIn 10000 t (.agg xs) (.agg ys)).run P w = .ok r w ∧ (r = true ↔ xs = ys) := by
  obtain ⟨lx, hlx⟩ := Option.isSome_iff_exists.1 (lits_same D t z xs.toList hx hz)
  obtain ⟨ly, hly⟩ := Option.isSome_iff_exists.1 (lits_same D t z ys.toList hy hz)
  have fx : ∀ cs : Array Value, SameK z cs.toList → (Value.agg cs).formed P t = true := by
    intro cs hc
    have hl := hc.1
    rw [hzl] at hl
    unfold Value.formed
    revert hwide
    cases P.underlying t with
    | none => intro h; cases h
    | some d => cases d <;> intro h <;> first | (cases h; done) | (simp; simpa using hl.symm)
  have := run_equalIn_deep (P := P) (10000 - m) m t hk w D D (.agg xs) (.agg ys) lx ly (fx xs hx) (fx ys hy) hlx hly
  rw [show 10000 - m + m = 10000 by omega] at this
  obtain ⟨r, hr, hiff⟩ := this
  refine ⟨r, hr, hiff.trans ⟨fun e => ?_, fun e => ?_⟩⟩
  · have cx := cells_of_lits m t ht D _ _ hlx
    have cy := cells_of_lits m t ht D _ _ hly
    rw [e, ← cy] at cx
    exact Array.ext' cx
  · subst e
    rw [hlx] at hly
    exact Option.some.inj hly
end
end Go.Proofs.Ytblnfkhaicjeaaa.Eql
