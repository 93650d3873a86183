/-
  Plain facts: the queue beside the document's, step by step. No program in sight.
-/
import Derived.Test.YthdppaohagghbaaInputqPure
import Derived.Test.YthdppaohagghbaaRef21E
namespace Go.Proofs.Ythdppaohagghbaa.InputqP
open Go.RowKit
set_option linter.all false
abbrev Q := Inputq.Q
abbrev R := Ref21.R

/-- The queue keeps the end of what the document knows. -/
structure Rel (x : Q) (y : R) : Prop where
  kf : x.kf = y.fk
  kl : x.kl = y.K.drop y.fk.toNat
  uf : x.uf = y.fu
  ul : x.ul = y.U.drop y.fu.toNat
  last : x.last = y.last
  wrong : x.wrong = y.wrong
  k0 : 0 ≤ y.fk
  k1 : y.fk ≤ y.K.length
  k2 : (y.K.length : Int) - y.fk ≤ 256
  u0 : 0 ≤ y.fu
  u1 : y.fu ≤ y.U.length
  u2 : (y.U.length : Int) - y.fu ≤ 256
section
variable {x : Q} {y : R}
theorem Rel.kn (h : Rel x y) : (x.kl.length : Int) = y.K.length - y.fk := by have := h.k0; have := h.k1; rw [h.kl, List.length_drop]; omega
theorem Rel.un (h : Rel x y) : (x.ul.length : Int) = y.U.length - y.fu := by have := h.u0; have := h.u1; rw [h.ul, List.length_drop]; omega
theorem Rel.kend (h : Rel x y) : x.kf + (x.kl.length : Int) = y.K.length := by rw [h.kn, h.kf]; omega
theorem Rel.uend (h : Rel x y) : x.uf + (x.ul.length : Int) = y.U.length := by rw [h.un, h.uf]; omega
theorem Rel.ok (h : Rel x y) (hk : y.K.length ≤ 500000) (hu : y.U.length ≤ 500000) : Inputq.Ok x := by
  have := h.kn; have := h.un; have := h.kf; have := h.uf; have := h.k0; have := h.k1; have := h.k2; have := h.u0; have := h.u1; have := h.u2
  exact ⟨by omega, by omega, by omega, by omega, by omega, by omega⟩
theorem Rel.okR (h : Rel x y) (hk : y.K.length ≤ 500000) (hu : y.U.length ≤ 500000) : Ref21.OkR y := ⟨h.k0, h.u0, hk, hu, h.k1, h.u1⟩
theorem nth_drop (l : List Int) (a b : Nat) : nth (l.drop a) b = nth l (a + b) := by simp [nth, List.getD]

theorem Rel.thinkV (h : Rel x y) (n : Int) : Inputq.thinkV x n = Ref21.thinkV y.K y.fk y.last n := by
  have a := h.kn; have b := h.kf; have c := h.k0; have d := h.k1
  unfold Inputq.thinkV Ref21.thinkV
  by_cases h1 : n < y.fk
  · rw [if_pos (by omega), if_pos h1]
  · rw [if_neg (by omega), if_neg h1]
    by_cases h2 : n < (y.K.length : Int)
    · rw [if_neg (by omega), if_pos h2, h.kl, nth_drop]; congr 1; omega
    · rw [if_pos (by omega), if_neg h2, h.last]
theorem Rel.thinkK (h : Rel x y) (n : Int) : Inputq.thinkK x n = Ref21.thinkK y.K y.fk n := by
  have a := h.kn; have b := h.kf
  unfold Inputq.thinkK Ref21.thinkK
  rw [b]; congr 1; simp only [decide_eq_decide]; omega
theorem Rel.thinkE (h : Rel x y) (n : Int) : Inputq.thinkE x n = Ref21.thinkE y.fk n := by unfold Inputq.thinkE Ref21.thinkE; rw [h.kf]
theorem Rel.useE (h : Rel x y) (n : Int) : Inputq.useE x n = Ref21.useE y n := by
  have a := h.uend
  unfold Inputq.useE Ref21.useE
  rw [h.thinkE]
  split <;> split <;> first | rfl | omega
theorem Rel.useV (h : Rel x y) (n : Int) : Inputq.useV x n = Ref21.useV y n := by unfold Inputq.useV Ref21.useV; rw [h.useE, h.thinkV]
theorem Rel.useK (h : Rel x y) (n : Int) : Inputq.useK x n = Ref21.useK y n := by unfold Inputq.useK Ref21.useK; rw [h.useE, h.thinkK]

theorem put_end {l : List Int} {f : Int} {v : Int} (h0 : 0 ≤ f) (h1 : f ≤ l.length) (h2 : (l.length : Int) - f ≤ 256) :
    RingInput.putF 256 f (l.drop f.toNat) = max f ((l.length : Int) + 1 - 256) ∧ RingInput.putL 256 (l.drop f.toNat) v = (l ++ [v]).drop (max f ((l.length : Int) + 1 - 256)).toNat ∧
    0 ≤ max f ((l.length : Int) + 1 - 256) ∧ max f ((l.length : Int) + 1 - 256) ≤ (l ++ [v]).length ∧ ((l ++ [v]).length : Int) - max f ((l.length : Int) + 1 - 256) ≤ 256 := by
  have hl : ((l.drop f.toNat).length : Int) = l.length - f := by rw [List.length_drop]; omega
  have hd : ∀ n : Nat, n ≤ l.length → (l ++ [v]).drop n = l.drop n ++ [v] := fun n hn => by rw [List.drop_append_of_le_length hn]
  by_cases h : (l.length : Int) - f = 256
  · have e : max f ((l.length : Int) + 1 - 256) = f + 1 := by omega
    rw [e]
    refine ⟨by unfold RingInput.putF; rw [if_pos (by omega)], ?_, by omega, by simp; omega, by simp; omega⟩
    unfold RingInput.putL
    rw [if_pos (by omega), hd _ (by omega), List.drop_drop, show f.toNat + 1 = (f + 1).toNat by omega]
  · have e : max f ((l.length : Int) + 1 - 256) = f := by omega
    rw [e]
    refine ⟨by unfold RingInput.putF; rw [if_neg (by omega)], ?_, by omega, by simp; omega, by simp; omega⟩
    unfold RingInput.putL
    rw [if_neg (by omega), hd _ (by omega)]

theorem Rel.add (h : Rel x y) (v : Int) : Rel (Inputq.addQ x v) (Ref21.addR y v) := by
  obtain ⟨p1, p2, p3, p4, p5⟩ := put_end (v := v) h.k0 h.k1 h.k2
  refine ⟨?_, ?_, h.uf, h.ul, rfl, ?_, p3, p4, p5, h.u0, h.u1, h.u2⟩
  · show RingInput.putF 256 x.kf x.kl = _; rw [h.kf, h.kl]; exact p1
  · show RingInput.putL 256 x.kl v = _; rw [h.kl]; exact p2
  · show Inputq.addW x v = if Ref21.addHit y v then (y.K.length : Int) else y.wrong
    unfold Inputq.addW
    rw [h.kend, h.wrong]
    have a := h.un; have b := h.uf; have c := h.u0; have d := h.u1
    by_cases hit : (y.K.length : Int) < y.U.length ∧ y.fu ≤ (y.K.length : Int)
    · have e1 : RingInput.atE x.uf x.ul.length y.K.length = 0 := by unfold RingInput.atE; rw [if_neg (by omega), if_neg (by omega)]
      have e2 : RingInput.atV x.uf x.ul y.K.length = nth y.U y.K.length := by
        unfold RingInput.atV; rw [if_neg (by omega), if_neg (by omega), h.ul, nth_drop]; congr 1; omega
      rw [e1, e2]
      by_cases g : nth y.U y.K.length ≠ v ∧ (y.wrong < 0 ∨ (y.K.length : Int) < y.wrong)
      · rw [if_pos ⟨rfl, g⟩, if_pos ⟨by omega, hit.2, g⟩]
      · rw [if_neg (fun e => g e.2), if_neg (fun e => g e.2.2)]
    · rw [if_neg, if_neg (fun e => hit ⟨by have := e.1; omega, e.2.1⟩)]
      rintro ⟨e, _⟩
      unfold RingInput.atE at e
      split at e
      · cases e
      · split at e
        · cases e
        · exact hit ⟨by omega, by omega⟩
theorem set_drop (l : List Int) (a b : Nat) (v : Int) (h : a ≤ b) : (l.set b v).drop a = (l.drop a).set (b - a) v := by
  rw [List.drop_set, if_neg (by omega)]
theorem Rel.use (h : Rel x y) (n : Int) : Rel (Inputq.useQ x n) (Ref21.useR y n) := by
  have hE := h.useE n
  have a := h.un; have b := h.uf; have c := h.u0; have d := h.u1; have e := h.uend
  have hk := h.kf
  by_cases h1 : (y.U.length : Int) < n
  · have e1 : Ref21.useE y n = 210 := by unfold Ref21.useE; rw [if_pos h1]
    rw [Ref21.useR, if_neg (by rw [e1]; decide), Inputq.useQ, if_pos (by omega)]; exact h
  · by_cases h2 : n < y.fk
    · have e1 : Ref21.useE y n = 90 := by unfold Ref21.useE Ref21.thinkE; rw [if_neg h1, if_pos h2]
      rw [Ref21.useR, if_neg (by rw [e1]; decide), Inputq.useQ, if_neg (by omega), if_pos (by omega)]; exact h
    · have e1 : Ref21.useE y n = 0 := by unfold Ref21.useE Ref21.thinkE; rw [if_neg h1, if_neg h2]
      rw [Ref21.useR, if_pos e1, Inputq.useQ, if_neg (by omega), if_neg (by omega), h.thinkV]
      by_cases h3 : n = (y.U.length : Int)
      · rw [if_pos (by omega), if_pos h3]
        obtain ⟨p1, p2, p3, p4, p5⟩ := put_end (v := Ref21.thinkV y.K y.fk y.last n) h.u0 h.u1 h.u2
        refine ⟨h.kf, h.kl, ?_, ?_, h.last, h.wrong, h.k0, h.k1, h.k2, p3, p4, p5⟩
        · show RingInput.putF 256 x.uf x.ul = _; rw [h.uf, h.ul]; exact p1
        · show RingInput.putL 256 x.ul _ = _; rw [h.ul]; exact p2
      · rw [if_neg (by omega), if_neg h3]
        by_cases h4 : y.fu ≤ n
        · rw [if_pos h4]
          refine ⟨h.kf, h.kl, h.uf, ?_, h.last, h.wrong, h.k0, h.k1, h.k2, h.u0, by simpa using h.u1, by simpa using h.u2⟩
          show RingInput.setL x.uf x.ul n _ = (y.U.set n.toNat (Ref21.thinkV y.K y.fk y.last n)).drop y.fu.toNat
          unfold RingInput.setL
          rw [if_neg (by omega), if_neg (by omega), h.ul, set_drop _ _ _ _ (by omega)]
          congr 1; omega
        · rw [if_neg h4]
          have : RingInput.setL x.uf x.ul n (Ref21.thinkV y.K y.fk y.last n) = x.ul := by unfold RingInput.setL; rw [if_pos (by omega)]
          rw [this]; exact h
theorem drop_end {l : List Int} {f n : Int} (h0 : 0 ≤ f) (h1 : f ≤ l.length) :
    RingInput.dropF f (l.drop f.toNat).length n = max f (min n l.length) ∧ RingInput.dropL f (l.drop f.toNat) n = l.drop (max f (min n l.length)).toNat := by
  have hl : ((l.drop f.toNat).length : Int) = l.length - f := by rw [List.length_drop]; omega
  by_cases h : n ≤ f
  · have e : max f (min n l.length) = f := by omega
    rw [e, RingInput.dropF, if_pos h, RingInput.dropL, if_pos h]; exact ⟨rfl, rfl⟩
  · rw [RingInput.dropF, if_neg h, RingInput.dropL, if_neg h, List.drop_drop]
    refine ⟨by omega, ?_⟩
    by_cases g : n ≤ l.length
    · congr 1; omega
    · rw [List.drop_of_length_le (by omega), List.drop_of_length_le (by omega)]
theorem Rel.drop (h : Rel x y) (n : Int) : Rel (Inputq.dropQ x n) (Ref21.dropR y n) := by
  obtain ⟨p1, p2⟩ := drop_end (n := Inputq.dropM x n) h.k0 h.k1
  obtain ⟨p3, p4⟩ := drop_end (n := n) h.u0 h.u1
  have e := h.uend
  have em : Inputq.dropM x n = min n y.U.length := by unfold Inputq.dropM; split <;> omega
  have a := h.k0; have b := h.k1; have c := h.k2; have d := h.u0; have f := h.u1; have g := h.u2
  rw [em] at p1 p2
  refine ⟨?_, ?_, ?_, ?_, h.last, h.wrong, ?_, ?_, ?_, ?_, ?_, ?_⟩
  · show RingInput.dropF x.kf x.kl.length (Inputq.dropM x n) = max y.fk (min (min n y.U.length) y.K.length); rw [h.kf, h.kl, em]; exact p1
  · show RingInput.dropL x.kf x.kl (Inputq.dropM x n) = y.K.drop (max y.fk (min (min n y.U.length) y.K.length)).toNat; rw [h.kf, h.kl, em]; exact p2
  · show RingInput.dropF x.uf x.ul.length n = max y.fu (min n y.U.length); rw [h.uf, h.ul]; exact p3
  · show RingInput.dropL x.uf x.ul n = y.U.drop (max y.fu (min n y.U.length)).toNat; rw [h.uf, h.ul]; exact p4
  all_goals simp only [Ref21.dropR]; omega
theorem Rel.right (h : Rel x y) : Rel { x with wrong := -1 } { y with wrong := -1 } := ⟨h.kf, h.kl, h.uf, h.ul, h.last, rfl, h.k0, h.k1, h.k2, h.u0, h.u1, h.u2⟩
end
end Go.Proofs.Ythdppaohagghbaa.InputqP
