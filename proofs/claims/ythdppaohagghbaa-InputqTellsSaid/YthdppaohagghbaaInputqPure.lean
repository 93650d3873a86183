/-
  Plain facts on a queue's numbers, no program in sight; and what the laws of layer 21 carry from round to round.
-/
import Derived.Test.YthdppaohagghbaaInputqB
namespace Go.Proofs.Ythdppaohagghbaa.Inputq
open Go.RowKit

theorem addQ_kf {x : Q} {v : Int} (h : x.kl.length < 256) : (addQ x v).kf = x.kf := by
  have e1 : ¬ ((x.kl.length : Int) = 256) := by omega
  simp only [addQ, RingInput.putF, if_neg e1]
theorem addQ_kl {x : Q} {v : Int} (h : x.kl.length < 256) : (addQ x v).kl = x.kl ++ [v] := by
  have e1 : ¬ ((x.kl.length : Int) = 256) := by omega
  simp only [addQ, RingInput.putL, if_neg e1]
theorem addW_late {x : Q} {v : Int} (hk : x.kf = 0) (hu : x.uf = 0) (h : x.ul.length ≤ x.kl.length) : addW x v = x.wrong := by
  have e : RingInput.atE x.uf x.ul.length (x.kf + x.kl.length) = 91 := by rw [RingInput.atE, if_neg (by omega), if_pos (by omega)]
  rw [addW, e, if_neg (by omega)]
theorem addW_at {x : Q} {v : Int} (hk : x.kf = 0) (hu : x.uf = 0) (hw : x.wrong ≤ x.kl.length) :
    addW x v = if x.kl.length < x.ul.length ∧ nth x.ul x.kl.length ≠ v ∧ x.wrong < 0 then (x.kl.length : Int) else x.wrong := by
  by_cases h : x.kl.length < x.ul.length
  · have e : RingInput.atE x.uf x.ul.length (x.kf + x.kl.length) = 0 := by rw [RingInput.atE, if_neg (by omega), if_neg (by omega)]
    have ev : RingInput.atV x.uf x.ul (x.kf + x.kl.length) = nth x.ul x.kl.length := by
      rw [RingInput.atV, if_neg (by omega), if_neg (by omega)]
      congr 1; omega
    rw [addW, e, ev]
    by_cases h2 : nth x.ul x.kl.length ≠ v ∧ x.wrong < 0
    · rw [if_pos ⟨rfl, h2.1, .inl h2.2⟩, if_pos ⟨h, h2⟩, hk]; omega
    · rw [if_neg (fun ⟨_, p, q⟩ => h2 ⟨p, by omega⟩), if_neg (fun ⟨_, p⟩ => h2 p)]
  · rw [addW_late hk hu (by omega), if_neg (fun p => h p.1)]
theorem useE_at {x : Q} {n : Int} (hk : x.kf = 0) (hn : n = x.uf + x.ul.length) (h0 : 0 ≤ n) : useE x n = 0 := by
  rw [useE, if_neg (by omega), thinkE, if_neg (by omega)]
theorem useQ_at {x : Q} {n : Int} (hk : x.kf = 0) (hn : n = x.uf + x.ul.length) (h0 : 0 ≤ n) (h : x.ul.length < 256) : useQ x n = { x with ul := x.ul ++ [useV x n] } := by
  have e1 : ¬ ((x.ul.length : Int) = 256) := by omega
  rw [useV, useE_at hk hn h0, if_pos rfl, useQ, if_neg (by omega), if_neg (by omega), if_pos hn]
  simp only [RingInput.putF, RingInput.putL, if_neg e1]

/-- A queue and a list beside it, both made since the call began. -/
def Pair (B : Nat) (w0 : World) (q : Nat) (x : Q) (uv : Value) (U : List Int) (w : World) : Prop :=
  ∃ s, s.q = q ∧ QAt w s x ∧ Below B w0 w ∧ (∀ k, fpQ s k → B ≤ k) ∧ On w 30 1 uv U.length (U.map (Value.int .u16)) ∧ (∀ k, uv.ownBlock = some k → B ≤ k) ∧ ∀ k, uv.ownBlock = some k → ¬ fpQ s k
theorem Pair.turned {B : Nat} {w0 w w' : World} {y : Q} {uv : Value} {U : List Int} {s : S} (hB : B ≤ w.heap.size) (hb : Below B w0 w) (hF : ∀ k, fpQ s k → B ≤ k) (hu : On w 30 1 uv U.length (U.map (Value.int .u16)))
    (hub : ∀ k, uv.ownBlock = some k → B ≤ k) (hd : ∀ k, uv.ownBlock = some k → ¬ fpQ s k) (ht : TurnedQ w s y w') : Pair B w0 s.q y uv U w' := by
  obtain ⟨s', e', hq', hT, hF'⟩ := ht
  obtain ⟨b, f, _⟩ := hT.base hF' hB hF
  refine ⟨s', e', hq', hb.trans b, f, hu.touch hT hd, hub, fun j hj hs => ?_⟩
  rcases hF' j hs with a | a
  · exact hd j hj a
  · have := hu.lt j hj; omega
theorem pair_add {B q : Nat} {w0 w : World} {x : Q} {uv : Value} {U : List Int} (h : Pair B w0 q x uv U w) (hB : B ≤ w0.heap.size) (ok : Ok x) (v : Int) :
    Calls Try.prog 17 #[.pointer (some ⟨q, 0, none⟩), .int .u16 v] w fun e w' => e = .returned (.int .i64 (x.kf + x.kl.length)) ∧ Pair B w0 q (addQ x v) uv U w' := by
  obtain ⟨s, rfl, hQ, hb, hF, hu, hub, hd⟩ := h
  exact (add_any w s x v hQ ok).mono fun e w' ⟨he, ht⟩ => ⟨he, Pair.turned (Nat.le_trans hB hb.size) hb hF hu hub hd ht⟩
theorem pair_use {B q : Nat} {w0 w : World} {x : Q} {uv : Value} {U : List Int} (h : Pair B w0 q x uv U w) (hB : B ≤ w0.heap.size) (ok : Ok x) (n : Int) (hn : n ≤ 9223372036854775807) :
    Calls Try.prog 18 #[.pointer (some ⟨q, 0, none⟩), .int .i64 n] w fun e w' => e = .returned (.tuple #[.int .u16 (useV x n), .bool (useK x n), .int .i64 (useE x n)]) ∧ Pair B w0 q (useQ x n) uv U w' := by
  obtain ⟨s, rfl, hQ, hb, hF, hu, hub, hd⟩ := h
  exact (use_any w s x n hQ ok hn).mono fun e w' ⟨he, ht⟩ => ⟨he, Pair.turned (Nat.le_trans hB hb.size) hb hF hu hub hd ht⟩
theorem pair_wrong {B q : Nat} {w0 w : World} {x : Q} {uv : Value} {U : List Int} (h : Pair B w0 q x uv U w) :
    Calls Try.prog 19 #[.pointer (some ⟨q, 0, none⟩)] w fun e w' => e = .returned (.int .i64 x.wrong) ∧ w = w' := by
  obtain ⟨s, rfl, hQ, _⟩ := h
  exact wrong_any w s x hQ
theorem Pair.below {B q : Nat} {w0 w : World} {x : Q} {uv : Value} {U : List Int} (h : Pair B w0 q x uv U w) : Below B w0 w := by
  obtain ⟨s, _, _, hb, _⟩ := h
  exact hb
theorem Pair.on {B q : Nat} {w0 w : World} {x : Q} {uv : Value} {U : List Int} (h : Pair B w0 q x uv U w) : On w 30 1 uv U.length (U.map (Value.int .u16)) := by
  obtain ⟨s, _, _, _, _, hu, _⟩ := h
  exact hu
theorem Pair.drewN {B : Nat} {w0 w : World} {q : Nat} {x : Q} {uv : Value} {U : List Int} (h : Pair B w0 q x uv U w) (n : Nat) : Pair B w0 q x uv U (w.drewN n) := by
  obtain ⟨s, e, hq, hb, hF, hu, hub, hd⟩ := h
  exact ⟨s, e, hq, below_drewN hb n, hF, hu, hub, hd⟩
theorem Pair.size {B : Nat} {w0 w : World} {q : Nat} {x : Q} {uv : Value} {U : List Int} (h : Pair B w0 q x uv U w) (hB : B ≤ w0.heap.size) : B ≤ w.heap.size := by
  obtain ⟨s, e, hq, hb, _⟩ := h
  exact Nat.le_trans hB hb.size
/-- Behind an append to the list. -/
theorem Pair.grown {B : Nat} {w0 w w1 : World} {q : Nat} {x : Q} {uv uv' : Value} {U U' : List Int} {o : Obj} (h : Pair B w0 q x uv U w) (hB : B ≤ w.heap.size) (hg : (w.alloc o).grownBy w1 uv.ownBlock)
    (hon : On w1 30 1 uv' U'.length (U'.map (Value.int .u16))) (hat : uv'.ownBlock = uv.ownBlock ∨ uv'.ownBlock = some (w.alloc o).heap.size) : Pair B w0 q x uv' U' w1 := by
  obtain ⟨s, e, hq, hb, hF, hu, hub, hd⟩ := h
  have hT : Touch (fun k => uv.ownBlock = some k) w w1 := ((Touch.refl _ _).alloc o).grown hg (fun k hk => .inl hk)
  refine ⟨s, e, hq.touch hT (fun k hk hk2 => hd k hk2 hk), hb.trans (hT.below hB hub), hF, hon, fun k hk => ?_, fun k hk hs => ?_⟩
  · rcases hat with a | a
    · exact hub k (a ▸ hk)
    · rw [a] at hk; cases hk; simp; omega
  · rcases hat with a | a
    · exact hd k (a ▸ hk) hs
    · rw [a] at hk; cases hk
      have := hq.lt _ hs
      simp at this
      omega
end Go.Proofs.Ythdppaohagghbaa.Inputq
