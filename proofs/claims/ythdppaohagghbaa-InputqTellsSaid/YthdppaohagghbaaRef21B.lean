/-
  The walks of backstayref21: Drop, Add, New. Conditions: numbers and lengths without overflow.
-/
import Derived.Test.YthdppaohagghbaaRef21
import Derived.Deep.Cut
namespace Go.Proofs.Ythdppaohagghbaa.Ref21
open Go.RowKit
set_option linter.all false

/-- All that the document knows of a queue. -/
structure R where
  K : List Int
  U : List Int
  fk : Int
  fu : Int
  last : Int
  wrong : Int
/-- It is told by the value v, whose lists lie in w. -/
def RAt (w : World) (k u : Value) (x : R) : Prop := L w k x.K ∧ L w u x.U
def rval (k u : Value) (x : R) : Value := qv k u x.fk x.fu x.last x.wrong
def OkR (x : R) : Prop := 0 ≤ x.fk ∧ 0 ≤ x.fu ∧ x.K.length ≤ 500000 ∧ x.U.length ≤ 500000 ∧ x.fk ≤ x.K.length ∧ x.fu ≤ x.U.length
/-- What a function hands back: f tells how the queue's value stands in what is returned. -/
def RTo (w : World) (k u : Value) (x : R) (f : Value → Value) (e : Ending) (w' : World) : Prop :=
  ∃ k' u', e = .returned (f (rval k' u' x)) ∧ RAt w' k' u' x ∧ Below w.heap.size w w' ∧ (∀ b, k'.ownBlock = some b → k.ownBlock = some b ∨ w.heap.size ≤ b) ∧ (∀ b, u'.ownBlock = some b → u.ownBlock = some b ∨ w.heap.size ≤ b)
def boxS (w : World) : Nat → Prop := fun k => k = w.heap.size ∨ k = w.heap.size + 1
theorem rTo {w W W' : World} {k0 u0 k u : Value} {x : R} {f : Value → Value} (hB : Below w.heap.size w W) (hF : RAt W k u x)
    (hk : ∀ b, k.ownBlock = some b → (k0.ownBlock = some b ∧ b < w.heap.size) ∨ w.heap.size + 2 ≤ b) (hu : ∀ b, u.ownBlock = some b → (u0.ownBlock = some b ∧ b < w.heap.size) ∨ w.heap.size + 2 ≤ b) (hT : Touch (boxS w) W W') :
    RTo w k0 u0 x f (.returned (f (rval k u x))) W' :=
  ⟨k, u, rfl, ⟨On.touch hF.1 hT (fun b hb hS => by rcases hk b hb with ⟨_, h⟩ | h <;> rcases hS with h2 | h2 <;> omega), On.touch hF.2 hT (fun b hb hS => by rcases hu b hb with ⟨_, h⟩ | h <;> rcases hS with h2 | h2 <;> omega)⟩,
    hB.trans (hT.below hB.size (fun b hb => by rcases hb with h | h <;> omega)), fun b hb => (hk b hb).elim (fun h => .inl h.1) (fun h => .inr (by omega)), fun b hb => (hu b hb).elim (fun h => .inl h.1) (fun h => .inr (by omega))⟩
/-- The parameter's box and the result's. -/
theorem boxes (w : World) (x : Array Value) : ∃ W, W = (w.alloc (.cells x 37)).alloc (.cells #[.slice none 0 0, .slice none 0 0, .int .i64 0, .int .i64 0, .int .u16 0, .int .i64 0] 37) ∧ W.heap.size = w.heap.size + 2 ∧ Below w.heap.size w W ∧
    Blk W w.heap.size 37 x ∧ Blk W (w.heap.size + 1) 37 #[.slice none 0 0, .slice none 0 0, .int .i64 0, .int .i64 0, .int .u16 0, .int .i64 0] := by
  refine ⟨_, rfl, by simp, ((Below.refl _ w).alloc (Nat.le_refl _) _).alloc (by simp) _, (Blk.new _ _ _).alloc _, ?_⟩
  have := Blk.new (w.alloc (.cells x 37)) 37 #[.slice none 0 0, .slice none 0 0, .int .i64 0, .int .i64 0, .int .u16 0, .int .i64 0]
  simpa using this

def dropR (x : R) (n : Int) : R := { x with fk := max x.fk (min (min n x.U.length) x.K.length), fu := max x.fu (min n x.U.length) }

set_option maxRecDepth 100000 in
set_option maxHeartbeats 600000 in
theorem drop_any (w : World) (a b : Option Addr) (c d : Nat) (x : R) (n : Int) (h : RAt w (.slice a x.K.length c) (.slice b x.U.length d) x) :
    Calls Try.prog 136 #[rval (.slice a x.K.length c) (.slice b x.U.length d) x, .int .i64 n] w fun e w' => RTo w (.slice a x.K.length c) (.slice b x.U.length d) (dropR x n) id e w' := by
  obtain ⟨W1, hW1, hz1, hB1, hbox, hres⟩ := boxes w #[.slice a x.K.length c, .slice b x.U.length d, .int .i64 x.fk, .int .i64 x.fu, .int .u16 x.last, .int .i64 x.wrong]
  unfold rval qv
  have k0 := hbox.cell 0
  have k1 := hbox.cell 1
  have k2 := hbox.cell 2
  have k3 := hbox.cell 3
  have k4 := hbox.cell 4
  have k5 := hbox.cell 5
  have f2 := hbox.frozen 2
  have f3 := hbox.frozen 3
  have g0 := hres.cell 0
  have g1 := hres.cell 1
  have g2 := hres.cell 2
  have g3 := hres.cell 3
  have g4 := hres.cell 4
  have g5 := hres.cell 5
  have e0 := hres.frozen 0
  have e1 := hres.frozen 1
  have e2 := hres.frozen 2
  have e3 := hres.frozen 3
  have e4 := hres.frozen 4
  have e5 := hres.frozen 5
  obtain ⟨m1, hm1⟩ : ∃ m1, (if (x.U.length : Int) < n then (x.U.length : Int) else n) = m1 := ⟨_, rfl⟩
  obtain ⟨m2, hm2⟩ : ∃ m2, (if (x.K.length : Int) < m1 then (x.K.length : Int) else m1) = m2 := ⟨_, rfl⟩
  obtain ⟨m3, hm3⟩ : ∃ m3, (if x.fk < m2 then m2 else x.fk) = m3 := ⟨_, rfl⟩
  obtain ⟨m4, hm4⟩ : ∃ m4, (if x.fu < m1 then m1 else x.fu) = m4 := ⟨_, rfl⟩
  have e1' : dropR x n = { x with fk := m3, fu := m4 } := by
    unfold dropR
    congr 1
    · rw [← hm3, ← hm2, ← hm1]; split <;> split <;> split <;> omega
    · rw [← hm4, ← hm1]; split <;> split <;> omega
  rw [e1']
  clear e1'
  go_enter Try.func136, Try.ntmps136
  go_upto_region 1 with fail
  rw [← hW1]
  clear hW1
  go_wp2_with fail
  refine bodyPost_ret (v := rval (.slice a x.K.length c) (.slice b x.U.length d) { x with fk := m3, fu := m4 }) (by simp [results, rval, qv, Try.results136, go_sem, g0, g1, g2, g3, g4, g5]) rfl ?_
  have hr : RAt W1 (.slice a x.K.length c) (.slice b x.U.length d) { x with fk := m3, fu := m4 } := ⟨h.1.below hB1, h.2.below hB1⟩
  have hT : ∀ W, Touch (boxS w) W1 W → RTo w (.slice a x.K.length c) (.slice b x.U.length d) { x with fk := m3, fu := m4 } id (.returned (rval (.slice a x.K.length c) (.slice b x.U.length d) { x with fk := m3, fu := m4 })) W :=
    fun W hT => rTo (f := id) (W := W1) hB1 hr (fun b hb => .inl ⟨hb, On.lt h.1 b hb⟩) (fun b hb => .inl ⟨hb, On.lt h.2 b hb⟩) hT
  refine hT _ ?_
  clear hT hr
  repeat (refine Touch.setCell ?_ (Or.inl (by simp [boxS])) _)
  exact Touch.refl _ _

end Go.Proofs.Ythdppaohagghbaa.Ref21
