/-
  The walks of package inputq: what each method does to a queue in memory. Conditions: the queue lies whole, its numbers are within bounds.
-/
import Derived.Test.YthdppaohagghbaaRingInputC
namespace Go.Proofs.Ythdppaohagghbaa.Inputq
open Go.RowKit

structure Q where
  delay : Int
  kf : Int
  kl : List Int
  last : Int
  uf : Int
  ul : List Int
  wrong : Int
structure S where
  q : Nat
  kr : Nat
  ur : Nat
  ks : Value
  us : Value
def Ok (x : Q) : Prop := 0 ≤ x.kf ∧ 0 ≤ x.uf ∧ x.kf + x.kl.length ≤ 2305843009213693952 ∧ x.uf + x.ul.length ≤ 2305843009213693952 ∧ x.kl.length ≤ 256 ∧ x.ul.length ≤ 256

def QAt (w : World) (s : S) (x : Q) : Prop :=
  Blk w s.q 121 #[.int .i64 x.delay, .pointer (some ⟨s.kr, 0, none⟩), .int .u16 x.last, .pointer (some ⟨s.ur, 0, none⟩), .int .i64 x.wrong] ∧
  RingInput.At w s.kr 256 x.kf s.ks x.kl ∧ RingInput.At w s.ur 256 x.uf s.us x.ul ∧ ∀ k, RingInput.fp s.kr s.ks k → RingInput.fp s.ur s.us k → False
def fpQ (s : S) : Nat → Prop := fun k => k = s.q ∨ RingInput.fp s.kr s.ks k ∨ RingInput.fp s.ur s.us k
def TurnedQ (w : World) (s : S) (x' : Q) (w' : World) : Prop :=
  ∃ s', s'.q = s.q ∧ QAt w' s' x' ∧ Touch (fpQ s) w w' ∧ ∀ k, fpQ s' k → fpQ s k ∨ w.heap.size ≤ k

section
variable {w w' : World} {s : S} {x : Q}
theorem ring_ne {g r : Nat} {cs : Array Value} {room first : Int} {sv : Value} {l : List Int} (hb : Blk w g 121 cs) (h : RingInput.At w r room first sv l) : ¬ RingInput.fp r sv g := by
  intro hk
  rcases hk with e | e
  · exact Blk.ne_ hb h.1 (by decide) e
  · exact h.2.blk_ne hb (by decide) e
theorem QAt.lt (h : QAt w s x) : ∀ k, fpQ s k → k < w.heap.size := fun k hk => hk.elim (fun e => e ▸ h.1.lt) (fun e => e.elim (h.2.1.lt k) (h.2.2.1.lt k))
theorem QAt.heap_eq (h : QAt w s x) (hW : w'.heap = w.heap) : QAt w' s x := ⟨h.1.heap_eq hW, h.2.1.heap_eq hW, h.2.2.1.heap_eq hW, h.2.2.2⟩
theorem QAt.drewN (h : QAt w s x) (n : Nat) : QAt (w.drewN n) s x := h
theorem QAt.alloc (h : QAt w s x) (o : Obj) : QAt (w.alloc o) s x := ⟨h.1.alloc o, h.2.1.alloc o, h.2.2.1.alloc o, h.2.2.2⟩
theorem QAt.touch {T : Nat → Prop} (h : QAt w s x) (ht : Touch T w w') (hS : ∀ k, fpQ s k → ¬ T k) : QAt w' s x :=
  ⟨h.1.touch ht (hS _ (.inl rfl)), h.2.1.touch ht (fun k hk => hS k (.inr (.inl hk))), h.2.2.1.touch ht (fun k hk => hS k (.inr (.inr hk))), h.2.2.2⟩
theorem QAt.cells (h : QAt w s x) : (w.cell? ⟨s.q, 0, none⟩ = some (.int .i64 x.delay) ∧ w.cell? ⟨s.q, 1, none⟩ = some (.pointer (some ⟨s.kr, 0, none⟩)) ∧ w.cell? ⟨s.q, 2, none⟩ = some (.int .u16 x.last) ∧ w.cell? ⟨s.q, 3, none⟩ = some (.pointer (some ⟨s.ur, 0, none⟩)) ∧ w.cell? ⟨s.q, 4, none⟩ = some (.int .i64 x.wrong)) ∧
    (w.frozen? ⟨s.q, 2, none⟩ = false ∧ w.frozen? ⟨s.q, 4, none⟩ = false) :=
  ⟨⟨h.1.cell 0, h.1.cell 1, h.1.cell 2, h.1.cell 3, h.1.cell 4⟩, h.1.frozen 2, h.1.frozen 4⟩
/-- The ring of what is known has turned. -/
theorem QAt.known {f : Int} {l : List Int} (h : QAt w s x) (ht : RingInput.Turned w s.kr s.ks 256 f l w') : ∃ sv, QAt w' { s with ks := sv } { x with kf := f, kl := l } ∧ Touch (fpQ s) w w' ∧ ∀ k, fpQ { s with ks := sv } k → fpQ s k ∨ w.heap.size ≤ k := by
  obtain ⟨sv, hA, hT, hF⟩ := ht
  have hq := ring_ne h.1 h.2.1
  refine ⟨sv, ⟨h.1.touch hT hq, hA, h.2.2.1.touch hT (fun k hk hk2 => h.2.2.2 k hk2 hk), fun k hk hk2 => ?_⟩, hT.mono (fun k hk => .inl (.inr (.inl hk))), fun k hk => ?_⟩
  · rcases hF k hk with h1 | h1
    · exact h.2.2.2 k h1 hk2
    · have := h.2.2.1.lt k hk2; omega
  · rcases hk with e | e | e
    · exact .inl (.inl e)
    · exact (hF k e).imp (fun e => .inr (.inl e)) id
    · exact .inl (.inr (.inr e))
theorem QAt.used {f : Int} {l : List Int} (h : QAt w s x) (ht : RingInput.Turned w s.ur s.us 256 f l w') : ∃ sv, QAt w' { s with us := sv } { x with uf := f, ul := l } ∧ Touch (fpQ s) w w' ∧ ∀ k, fpQ { s with us := sv } k → fpQ s k ∨ w.heap.size ≤ k := by
  obtain ⟨sv, hA, hT, hF⟩ := ht
  have hq := ring_ne h.1 h.2.2.1
  refine ⟨sv, ⟨h.1.touch hT hq, h.2.1.touch hT (fun k hk hk2 => h.2.2.2 k hk hk2), hA, fun k hk hk2 => ?_⟩, hT.mono (fun k hk => .inl (.inr (.inr hk))), fun k hk => ?_⟩
  · rcases hF k hk2 with h1 | h1
    · exact h.2.2.2 k hk h1
    · have := h.2.1.lt k hk; omega
  · rcases hk with e | e | e
    · exact .inl (.inl e)
    · exact .inl (.inr (.inl e))
    · exact (hF k e).imp (fun e => .inr (.inr e)) id
theorem QAt.setLast (h : QAt w s x) (v : Int) : QAt (w.setCell ⟨s.q, 2, none⟩ (.int .u16 v)) s { x with last := v } := by
  have hT : Touch (fun k => k = s.q) w (w.setCell ⟨s.q, 2, none⟩ (.int .u16 v)) := (Touch.refl (fun k => k = s.q) w).setCell (p := ⟨s.q, 2, none⟩) (Or.inl rfl) _
  exact ⟨h.1.set_ 2 _, h.2.1.touch hT (fun k hk e => ring_ne h.1 h.2.1 (e ▸ hk)), h.2.2.1.touch hT (fun k hk e => ring_ne h.1 h.2.2.1 (e ▸ hk)), h.2.2.2⟩
theorem QAt.setWrong (h : QAt w s x) (v : Int) : QAt (w.setCell ⟨s.q, 4, none⟩ (.int .i64 v)) s { x with wrong := v } := by
  have hT : Touch (fun k => k = s.q) w (w.setCell ⟨s.q, 4, none⟩ (.int .i64 v)) := (Touch.refl (fun k => k = s.q) w).setCell (p := ⟨s.q, 4, none⟩) (Or.inl rfl) _
  exact ⟨h.1.set_ 4 _, h.2.1.touch hT (fun k hk e => ring_ne h.1 h.2.1 (e ▸ hk)), h.2.2.1.touch hT (fun k hk e => ring_ne h.1 h.2.2.1 (e ▸ hk)), h.2.2.2⟩
theorem touch_q (w : World) (s : S) (i : Nat) (u : Value) : Touch (fpQ s) w (w.setCell ⟨s.q, i, none⟩ u) := (Touch.refl (fpQ s) w).setCell (p := ⟨s.q, i, none⟩) (Or.inl (Or.inl rfl)) _
theorem TurnedQ.same (h : QAt w s x) (n : Nat) : TurnedQ w s x (w.drewN n) := ⟨s, rfl, h, (Touch.refl _ _).drewN n, fun _ hk => .inl hk⟩
theorem TurnedQ.drewN {x' : Q} (h : TurnedQ w s x' w') (n : Nat) : TurnedQ w s x' (w'.drewN n) := by
  obtain ⟨s', e, hq, hT, hF⟩ := h
  exact ⟨s', e, hq, hT.drewN n, hF⟩
/-- One turn behind another. -/
theorem TurnedQ.trans {x1 x2 : Q} {w1 w2 : World} (h : TurnedQ w s x1 w1) (k : ∀ s1, s1.q = s.q → QAt w1 s1 x1 → TurnedQ w1 s1 x2 w2) : TurnedQ w s x2 w2 := by
  obtain ⟨s1, e1, h1, T1, F1⟩ := h
  obtain ⟨s2, e2, h2, T2, F2⟩ := k s1 e1 h1
  refine ⟨s2, e2.trans e1, h2, T1.trans T2 F1, fun k hk => ?_⟩
  rcases F2 k hk with a | a
  · exact F1 k a
  · exact .inr (Nat.le_trans T1.size a)
end

set_option maxHeartbeats 400000 in
theorem delay_any (w : World) (s : S) (x : Q) (h : QAt w s x) :
    Calls Try.prog 80 #[.pointer (some ⟨s.q, 0, none⟩)] w fun e w' => e = .returned (.int .i64 x.delay) ∧ w = w' := by
  obtain ⟨⟨c0, c1, c2, c3, c4⟩, f2, f4⟩ := h.cells
  go_enter Try.func80, Try.ntmps80
  go_wp2
  go_ret
  exact ⟨rfl, rfl⟩

set_option maxHeartbeats 400000 in
theorem wrong_any (w : World) (s : S) (x : Q) (h : QAt w s x) :
    Calls Try.prog 19 #[.pointer (some ⟨s.q, 0, none⟩)] w fun e w' => e = .returned (.int .i64 x.wrong) ∧ w = w' := by
  obtain ⟨⟨c0, c1, c2, c3, c4⟩, f2, f4⟩ := h.cells
  go_enter Try.func19, Try.ntmps19
  go_wp2
  go_ret
  exact ⟨rfl, rfl⟩

set_option maxHeartbeats 400000 in
theorem right_any (w : World) (s : S) (x : Q) (h : QAt w s x) :
    Calls Try.prog 137 #[.pointer (some ⟨s.q, 0, none⟩)] w fun e w' => e = .returned (.tuple #[]) ∧ TurnedQ w s { x with wrong := -1 } w' := by
  obtain ⟨⟨c0, c1, c2, c3, c4⟩, f2, f4⟩ := h.cells
  go_enter Try.func137, Try.ntmps137
  go_wp2
  go_end0
  exact ⟨rfl, s, rfl, h.setWrong _, touch_q _ _ _ _, fun _ hk => .inl hk⟩

set_option maxHeartbeats 400000 in
theorem next_any (w : World) (s : S) (x : Q) (h : QAt w s x) (ok : Ok x) :
    Calls Try.prog 83 #[.pointer (some ⟨s.q, 0, none⟩)] w fun e w' => e = .returned (.int .i64 (x.kf + x.kl.length)) ∧ ∃ n, w' = w.drewN n := by
  obtain ⟨⟨c0, c1, c2, c3, c4⟩, f2, f4⟩ := h.cells
  obtain ⟨o1, o2, o3, o4, o5, o6⟩ := ok
  have p := Lib.hid (RingInput.next_any w s.kr 256 x.kf s.ks x.kl h.2.1 o1 (by omega))
  go_enter Try.func83, Try.ntmps83
  go_wp2_with (go_at_call 77; refine p.out.mono ?_; rintro e w' ⟨rfl, nq, rfl⟩)
  go_ret
  exact ⟨rfl, _, rfl⟩

set_option maxHeartbeats 400000 in
theorem used_any (w : World) (s : S) (x : Q) (h : QAt w s x) (ok : Ok x) :
    Calls Try.prog 84 #[.pointer (some ⟨s.q, 0, none⟩)] w fun e w' => e = .returned (.int .i64 (x.uf + x.ul.length)) ∧ ∃ n, w' = w.drewN n := by
  obtain ⟨⟨c0, c1, c2, c3, c4⟩, f2, f4⟩ := h.cells
  obtain ⟨o1, o2, o3, o4, o5, o6⟩ := ok
  have p := Lib.hid (RingInput.next_any w s.ur 256 x.uf s.us x.ul h.2.2.1 o2 (by omega))
  go_enter Try.func84, Try.ntmps84
  go_wp2_with (go_at_call 77; refine p.out.mono ?_; rintro e w' ⟨rfl, nq, rfl⟩)
  go_ret
  exact ⟨rfl, _, rfl⟩

set_option maxHeartbeats 400000 in
theorem first_any (w : World) (s : S) (x : Q) (h : QAt w s x) :
    Calls Try.prog 85 #[.pointer (some ⟨s.q, 0, none⟩)] w fun e w' => e = .returned (.int .i64 x.kf) ∧ w = w' := by
  obtain ⟨⟨c0, c1, c2, c3, c4⟩, f2, f4⟩ := h.cells
  have p := Lib.hid (RingInput.first_any w s.kr 256 x.kf s.ks x.kl h.2.1)
  go_enter Try.func85, Try.ntmps85
  go_wp2_with (go_at_call 139; refine p.out.mono ?_; rintro e w' ⟨rfl, rfl⟩)
  go_ret
  exact ⟨rfl, rfl⟩

/-- What Think answers. -/
def thinkV (x : Q) (n : Int) : Int := if n < x.kf then 0 else if n - x.kf ≥ x.kl.length then x.last else nth x.kl (n - x.kf).toNat
def thinkK (x : Q) (n : Int) : Bool := decide (x.kf ≤ n) && decide (n - x.kf < x.kl.length)
def thinkE (x : Q) (n : Int) : Int := if n < x.kf then 90 else 0

set_option maxRecDepth 100000 in
set_option maxHeartbeats 1000000 in
theorem think_any (w : World) (s : S) (x : Q) (n : Int) (h : QAt w s x) (ok : Ok x) (hn : n ≤ 9223372036854775807) :
    Calls Try.prog 21 #[.pointer (some ⟨s.q, 0, none⟩), .int .i64 n] w fun e w' => e = .returned (.tuple #[.int .u16 (thinkV x n), .bool (thinkK x n), .int .i64 (thinkE x n)]) ∧ ∃ n, w' = w.drewN n := by
  obtain ⟨⟨c0, c1, c2, c3, c4⟩, f2, f4⟩ := h.cells
  obtain ⟨o1, o2, o3, o4, o5, o6⟩ := ok
  have p := RingInput.at_any w s.kr 256 x.kf n s.ks x.kl h.2.1 o1 hn
  by_cases b0 : n < x.kf
  · rw [RingInput.atV, RingInput.atE, if_pos b0, if_pos b0] at p
    have e1 := Lib.hid (show thinkV x n = 0 by rw [thinkV, if_pos b0])
    have e2 := Lib.hid (show thinkK x n = false by simp [thinkK]; omega)
    have e3 := Lib.hid (show thinkE x n = 90 by rw [thinkE, if_pos b0])
    have p := Lib.hid p
    go_enter Try.func21, Try.ntmps21
    go_wp2_with fail
    refine p.out.mono ?_
    rintro e w' ⟨rfl, nq, rfl⟩
    go_wp2_with fail
    refine bodyPost_ret (v := .tuple #[.int .u16 0, .bool false, .int .i64 90]) (by simp [results, Try.results21, go_sem]) rfl ⟨?_, nq, rfl⟩
    rw [e1.out, e2.out, e3.out]
  · by_cases b1 : n - x.kf ≥ x.kl.length
    · rw [RingInput.atV, RingInput.atE, if_neg b0, if_neg b0, if_pos b1, if_pos b1] at p
      have e1 := Lib.hid (show thinkV x n = x.last by rw [thinkV, if_neg b0, if_pos b1])
      have e2 := Lib.hid (show thinkK x n = false by simp [thinkK]; omega)
      have e3 := Lib.hid (show thinkE x n = 0 by rw [thinkE, if_neg b0])
      have p := Lib.hid p
      go_enter Try.func21, Try.ntmps21
      go_wp2_with fail
      refine p.out.mono ?_
      rintro e w' ⟨rfl, nq, rfl⟩
      go_wp2_with fail
      refine bodyPost_ret (v := .tuple #[.int .u16 x.last, .bool false, .int .i64 0]) (by simp [results, Try.results21, go_sem]) rfl ⟨?_, nq, rfl⟩
      rw [e1.out, e2.out, e3.out]
    · rw [RingInput.atV, RingInput.atE, if_neg b0, if_neg b0, if_neg b1, if_neg b1] at p
      have e1 := Lib.hid (show thinkV x n = nth x.kl (n - x.kf).toNat by rw [thinkV, if_neg b0, if_neg b1])
      have e2 := Lib.hid (show thinkK x n = true by simp [thinkK]; omega)
      have e3 := Lib.hid (show thinkE x n = 0 by rw [thinkE, if_neg b0])
      have p := Lib.hid p
      go_enter Try.func21, Try.ntmps21
      go_wp2_with fail
      refine p.out.mono ?_
      rintro e w' ⟨rfl, nq, rfl⟩
      go_wp2_with fail
      refine bodyPost_ret (v := .tuple #[.int .u16 (nth x.kl (n - x.kf).toNat), .bool true, .int .i64 0]) (by simp [results, Try.results21, go_sem]) rfl ⟨?_, nq, rfl⟩
      rw [e1.out, e2.out, e3.out]
end Go.Proofs.Ythdppaohagghbaa.Inputq
