/-
  The walks of backstaylaw21: same, use. The queue and the document's stand beside each other.
-/
import Derived.Test.YthdppaohagghbaaInputqRel
import Derived.Lib.QuietBelow
import Derived.Deep.Cut
namespace Go.Proofs.Ythdppaohagghbaa.InputqP
open Go.RowKit Go.Sort
set_option linter.all false
open Inputq (QAt fpQ TurnedQ S)
open Ref21 (RAt RTo rval qv L)

/-- A contract that leaves what lay, in a world of the class. -/
theorem regrown {P : Program} {f : FuncId} {args : Array Value} {v : Value} (w : World)
    (h : ∀ W, Below w.heap.size w W → Calls P f args W fun e W' => e = .returned v ∧ Below W.heap.size W W') (d : Nat) (os : Array Obj) :
    Calls P f args (grow (redrawn w d) os) fun e w'' => e = .returned v ∧ ∃ p : Regrown, w'' = grow (redrawn w p.d) p.os := Calls.regrown_of (h _ (below_regrown w d os))
theorem below_drewN' (w : World) (n : Nat) : Below w.heap.size w (w.drewN n) := below_drewN (Below.refl _ w) n

/-- The queue, and the document's, as they stand beside each other, all of it laid since B. -/
structure Bo (B : Nat) (s : S) (x : Q) (k u : Value) (y : R) (W : World) : Prop where
  q : QAt W s x
  r : RAt W k u y
  far : ∀ b, fpQ s b → B ≤ b
  ok : ∀ b, k.ownBlock = some b → B ≤ b ∧ ¬ fpQ s b
  ou : ∀ b, u.ownBlock = some b → B ≤ b ∧ ¬ fpQ s b
  size : B ≤ W.heap.size
section
variable {B : Nat} {s : S} {x x' : Q} {k u : Value} {y y' : R} {W W' : World}
theorem fp_lt (h : QAt W s x) : ∀ b, fpQ s b → b < W.heap.size := fun b hb => by
  rcases hb with e | e | e
  · exact e ▸ h.1.lt
  · exact h.2.1.lt b e
  · exact h.2.2.1.lt b e
theorem Bo.bel (h : Bo B s x k u y W) (hb : Below W.heap.size W W') : Bo B s x k u y W' :=
  ⟨h.q.touch (Touch.of_below (S := noB) hb) (fun _ _ hn => hn), ⟨h.r.1.below hb, h.r.2.below hb⟩, h.far, h.ok, h.ou, Nat.le_trans h.size hb.size⟩
/-- What lies in the blocks then is what lay there, or new. -/
def Fr (W : World) (s : S) (k u : Value) (s' : S) (k' u' : Value) : Prop :=
  (∀ b, fpQ s' b → fpQ s b ∨ W.heap.size ≤ b) ∧ (∀ b, k'.ownBlock = some b → k.ownBlock = some b ∨ W.heap.size ≤ b) ∧ (∀ b, u'.ownBlock = some b → u.ownBlock = some b ∨ W.heap.size ≤ b)
theorem Fr.refl (W : World) (s : S) (k u : Value) : Fr W s k u s k u := ⟨fun _ h => .inl h, fun _ h => .inl h, fun _ h => .inl h⟩
theorem Fr.trans {s' s'' : S} {k' u' k'' u'' : Value} (h : Fr W s k u s' k' u') (g : Fr W' s' k' u' s'' k'' u'') (hs : W.heap.size ≤ W'.heap.size) : Fr W s k u s'' k'' u'' :=
  ⟨fun b hb => (g.1 b hb).elim (h.1 b) (fun e => .inr (by omega)), fun b hb => (g.2.1 b hb).elim (h.2.1 b) (fun e => .inr (by omega)), fun b hb => (g.2.2 b hb).elim (h.2.2 b) (fun e => .inr (by omega))⟩
theorem Bo.touch {T : Nat → Prop} (h : Bo B s x k u y W) (hT : Touch T W W') (hd : ∀ b, T b → ¬ fpQ s b ∧ k.ownBlock ≠ some b ∧ u.ownBlock ≠ some b) : Bo B s x k u y W' :=
  ⟨h.q.touch hT (fun b hb hb2 => (hd b hb2).1 hb), ⟨On.touch h.r.1 hT (fun g hg hb => (hd g hb).2.1 hg), On.touch h.r.2 hT (fun g hg hb => (hd g hb).2.2 hg)⟩, h.far, h.ok, h.ou, Nat.le_trans h.size hT.size⟩
theorem Bo.turn (h : Bo B s x k u y W) (t : TurnedQ W s x' W') : ∃ s', s'.q = s.q ∧ Bo B s' x' k u y W' ∧ Touch (fpQ s) W W' ∧ Fr W s k u s' k u := by
  obtain ⟨s', e, hq, hT, hF⟩ := t
  refine ⟨s', e, ⟨hq, ⟨On.touch h.r.1 hT (fun g hg => (h.ok g hg).2), On.touch h.r.2 hT (fun g hg => (h.ou g hg).2)⟩, fun b hb => (hF b hb).elim (h.far b) (fun e => Nat.le_trans h.size e), ?_, ?_, Nat.le_trans h.size hT.size⟩, hT, hF, fun _ h => .inl h, fun _ h => .inl h⟩
  · exact fun b hb => ⟨(h.ok b hb).1, fun hs => (hF b hs).elim (h.ok b hb).2 (fun e => by have := On.lt h.r.1 b hb; omega)⟩
  · exact fun b hb => ⟨(h.ou b hb).1, fun hs => (hF b hs).elim (h.ou b hb).2 (fun e => by have := On.lt h.r.2 b hb; omega)⟩
theorem Bo.ref {f : Value → Value} {e : Ending} (h : Bo B s x k u y W) (t : RTo W k u y' f e W') : ∃ k' u', e = .returned (f (rval k' u' y')) ∧ Bo B s x k' u' y' W' ∧ Below W.heap.size W W' ∧ Fr W s k u s k' u' := by
  obtain ⟨k', u', he, hr, hb, hk, hu⟩ := t
  have hq := h.q.touch (Touch.of_below (S := noB) hb) (fun _ _ hn => hn)
  refine ⟨k', u', he, ⟨hq, hr, h.far, fun b hk2 => ?_, fun b hu2 => ?_, Nat.le_trans h.size hb.size⟩, hb, fun _ h => .inl h, hk, hu⟩
  · exact (hk b hk2).elim (h.ok b) (fun e => ⟨Nat.le_trans h.size e, fun hs => by have := fp_lt h.q b hs; omega⟩)
  · exact (hu b hu2).elim (h.ou b) (fun e => ⟨Nat.le_trans h.size e, fun hs => by have := fp_lt h.q b hs; omega⟩)
/-- The blocks that stand for the three lie below the heap's end. -/
theorem Bo.lt3 (h : Bo B s x k u y W) : (∀ b, fpQ s b → b < W.heap.size) ∧ (∀ b, k.ownBlock = some b → b < W.heap.size) ∧ (∀ b, u.ownBlock = some b → b < W.heap.size) := ⟨fp_lt h.q, On.lt h.r.1, On.lt h.r.2⟩
theorem Bo.slices (h : Bo B s x k u y W) : ∃ a c b d, k = .slice a y.K.length c ∧ u = .slice b y.U.length d := by
  obtain ⟨a, c, e, _⟩ := h.r.1.slice
  obtain ⟨b, d, e2, _⟩ := h.r.2.slice
  exact ⟨a, c, b, d, e, e2⟩
end

theorem use_any (w : World) (a b : Option Addr) (c d : Nat) (y : R) (n : Int) (h : RAt w (.slice a y.K.length c) (.slice b y.U.length d) y) (ok : Ref21.OkR y) :
    Calls Try.prog 164 #[rval (.slice a y.K.length c) (.slice b y.U.length d) y, .int .i64 n] w fun e w' => RTo w (.slice a y.K.length c) (.slice b y.U.length d) (Ref21.useR y n) (Ref21.useT y n) e w' := by
  by_cases he : Ref21.useE y n = 0
  · exact Ref21.use_ok w a b c d y n h ok he
  · exact Ref21.use_no w a b c d y n h ok he

set_option maxRecDepth 100000 in
set_option maxHeartbeats 2000000 in
theorem same_any {B : Nat} {s : S} {x : Q} {y : R} (w : World) (a b : Option Addr) (c d : Nat) (h : Bo B s x (.slice a y.K.length c) (.slice b y.U.length d) y w) (hr : Rel x y) (hk : y.K.length ≤ 500000) (hu : y.U.length ≤ 500000) :
    Calls Try.prog 25 #[.pointer (some ⟨s.q, 0, none⟩), rval (.slice a y.K.length c) (.slice b y.U.length d) y] w fun e w' => e = .returned (.bool true) ∧ Below w.heap.size w w' := by
  have ok := hr.ok hk hu
  obtain ⟨W1, hW1⟩ : ∃ W1 : World, W1 = w.alloc (.cells #[.slice a y.K.length c, .slice b y.U.length d, .int .i64 y.fk, .int .i64 y.fu, .int .u16 y.last, .int .i64 y.wrong] 37) := ⟨_, rfl⟩
  have hbox : Blk W1 w.heap.size 37 #[.slice a y.K.length c, .slice b y.U.length d, .int .i64 y.fk, .int .i64 y.fu, .int .u16 y.last, .int .i64 y.wrong] := by rw [hW1]; exact Blk.new _ _ _
  have hB1 : Below w.heap.size w W1 := by rw [hW1]; exact (Below.refl _ w).alloc (Nat.le_refl _) _
  have hq := (h.bel hB1).q
  have q0 := cell_regrown (hbox.cell 0)
  have q1 := cell_regrown (hbox.cell 1)
  have q2 := cell_regrown (hbox.cell 2)
  have q5 := cell_regrown (hbox.cell 5)
  have hqb : ∀ W, Below W1.heap.size W1 W → QAt W s x := fun W hb => hq.touch (Touch.of_below (S := noB) hb) (fun _ _ hn => hn)
  have cN := regrown W1 (v := .int .i64 y.K.length) (fun W hb => (Inputq.next_any W s x (hqb W hb) ok).mono (by rintro e w' ⟨rfl, n, rfl⟩; exact ⟨by rw [hr.kend], below_drewN' _ _⟩))
  have cU := regrown W1 (v := .int .i64 y.U.length) (fun W hb => (Inputq.used_any W s x (hqb W hb) ok).mono (by rintro e w' ⟨rfl, n, rfl⟩; exact ⟨by rw [hr.uend], below_drewN' _ _⟩))
  have cF := regrown W1 (v := .int .i64 y.fk) (fun W hb => (Inputq.first_any W s x (hqb W hb)).mono (by rintro e w' ⟨rfl, rfl⟩; exact ⟨by rw [hr.kf], Below.refl _ _⟩))
  have cW := regrown W1 (v := .int .i64 y.wrong) (fun W hb => (Inputq.wrong_any W s x (hqb W hb)).mono (by rintro e w' ⟨rfl, rfl⟩; exact ⟨by rw [hr.wrong], Below.refl _ _⟩))
  unfold rval qv
  go_enter Try.func25, Try.ntmps25
  go_upto_region 1 with fail
  rw [← hW1]
  clear hW1 hqb hq h hr ok hbox
  refine wp_region_quiet_below (by kernel_rfl) (by kernel_rfl) ?_
  repeat (quiet_step (first | exact cN _ _ | exact cU _ _ | exact cF _ _ | exact cW _ _))
  refine wpQuiet_nil ?_
  intro W2 hw'
  obtain ⟨⟨dq, osq⟩, hw''⟩ := hw'
  have hb2 : Below W1.heap.size W1 W2 := by rw [hw'']; exact below_regrown _ _ _
  clear hw'' cN cU cF cW q0 q1 q2 q5
  go_wp2_with fail
  go_ret
  exact ⟨rfl, hB1.trans (hb2.mono hB1.size)⟩
end Go.Proofs.Ythdppaohagghbaa.InputqP
