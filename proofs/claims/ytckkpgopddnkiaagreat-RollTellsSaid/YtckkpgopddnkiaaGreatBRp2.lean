/-
  Texts joined: Inputq, InputqB, Flat, Dig. No condition.
-/
import Derived.Test.YtckkpgopddnkiaaGreatBRp1
import Derived.WalkKit
namespace Go.Proofs.YtckkpgopddnkiaaGreat.Inputq
open Go.RowKit

structure Q where
  delay : Int
  kf : Int
  kl : List Int
  last : Int
  uf : Int
  ul : List Int
  wrong : Int
structure S where
  q : Nat
  kr : Nat
  ur : Nat
  ks : Value
  us : Value
def Ok (x : Q) : Prop := 0 ≤ x.kf ∧ 0 ≤ x.uf ∧ x.kf + x.kl.length ≤ 2305843009213693952 ∧ x.uf + x.ul.length ≤ 2305843009213693952 ∧ x.kl.length ≤ 256 ∧ x.ul.length ≤ 256

def QAt (w : World) (s : S) (x : Q) : Prop :=
  Blk w s.q 107 #[.int .i64 x.delay, .pointer (some ⟨s.kr, 0, none⟩), .int .u16 x.last, .pointer (some ⟨s.ur, 0, none⟩), .int .i64 x.wrong] ∧
  RingInput.At w s.kr 256 x.kf s.ks x.kl ∧ RingInput.At w s.ur 256 x.uf s.us x.ul ∧ ∀ k, RingInput.fp s.kr s.ks k → RingInput.fp s.ur s.us k → False
def fpQ (s : S) : Nat → Prop := fun k => k = s.q ∨ RingInput.fp s.kr s.ks k ∨ RingInput.fp s.ur s.us k
def TurnedQ (w : World) (s : S) (x' : Q) (w' : World) : Prop :=
  ∃ s', s'.q = s.q ∧ QAt w' s' x' ∧ Touch (fpQ s) w w' ∧ ∀ k, fpQ s' k → fpQ s k ∨ w.heap.size ≤ k

section
variable {w w' : World} {s : S} {x : Q}
theorem ring_ne {g r : Nat} {cs : Array Value} {room first : Int} {sv : Value} {l : List Int} (hb : Blk w g 107 cs) (h : RingInput.At w r room first sv l) : ¬ RingInput.fp r sv g := by
  intro hk
  rcases hk with e | e
  · exact Blk.ne_ hb h.1 (by decide) e
  · exact h.2.blk_ne hb (by decide) e
theorem QAt.lt (h : QAt w s x) : ∀ k, fpQ s k → k < w.heap.size := fun k hk => hk.elim (fun e => e ▸ h.1.lt) (fun e => e.elim (h.2.1.lt k) (h.2.2.1.lt k))
theorem QAt.heap_eq (h : QAt w s x) (hW : w'.heap = w.heap) : QAt w' s x := ⟨h.1.heap_eq hW, h.2.1.heap_eq hW, h.2.2.1.heap_eq hW, h.2.2.2⟩
theorem QAt.drewN (h : QAt w s x) (n : Nat) : QAt (w.drewN n) s x := h
theorem QAt.alloc (h : QAt w s x) (o : Obj) : QAt (w.alloc o) s x := ⟨h.1.alloc o, h.2.1.alloc o, h.2.2.1.alloc o, h.2.2.2⟩
theorem QAt.touch {T : Nat → Prop} (h : QAt w s x) (ht : Touch T w w') (hS : ∀ k, fpQ s k → ¬ T k) : QAt w' s x :=
  ⟨h.1.touch ht (hS _ (.inl rfl)), h.2.1.touch ht (fun k hk => hS k (.inr (.inl hk))), h.2.2.1.touch ht (fun k hk => hS k (.inr (.inr hk))), h.2.2.2⟩
theorem QAt.cells (h : QAt w s x) : (w.cell? ⟨s.q, 0, none⟩ = some (.int .i64 x.delay) ∧ w.cell? ⟨s.q, 1, none⟩ = some (.pointer (some ⟨s.kr, 0, none⟩)) ∧ w.cell? ⟨s.q, 2, none⟩ = some (.int .u16 x.last) ∧ w.cell? ⟨s.q, 3, none⟩ = some (.pointer (some ⟨s.ur, 0, none⟩)) ∧ w.cell? ⟨s.q, 4, none⟩ = some (.int .i64 x.wrong)) ∧
    (w.frozen? ⟨s.q, 2, none⟩ = false ∧ w.frozen? ⟨s.q, 4, none⟩ = false) :=
  ⟨⟨h.1.cell 0, h.1.cell 1, h.1.cell 2, h.1.cell 3, h.1.cell 4⟩, h.1.frozen 2, h.1.frozen 4⟩
/-- The ring of what is known has turned. -/
theorem QAt.known {f : Int} {l : List Int} (h : QAt w s x) (ht : RingInput.Turned w s.kr s.ks 256 f l w') : ∃ sv, QAt w' { s with ks := sv } { x with kf := f, kl := l } ∧ Touch (fpQ s) w w' ∧ ∀ k, fpQ { s with ks := sv } k → fpQ s k ∨ w.heap.size ≤ k := by
  obtain ⟨sv, hA, hT, hF⟩ := ht
  have hq := ring_ne h.1 h.2.1
  refine ⟨sv, ⟨h.1.touch hT hq, hA, h.2.2.1.touch hT (fun k hk hk2 => h.2.2.2 k hk2 hk), fun k hk hk2 => ?_⟩, hT.mono (fun k hk => .inl (.inr (.inl hk))), fun k hk => ?_⟩
  · rcases hF k hk with h1 | h1
    · exact h.2.2.2 k h1 hk2
    · have := h.2.2.1.lt k hk2; omega
  · rcases hk with e | e | e
    · exact .inl (.inl e)
    · exact (hF k e).imp (fun e => .inr (.inl e)) id
    · exact .inl (.inr (.inr e))
theorem QAt.used {f : Int} {l : List Int} (h : QAt w s x) (ht : RingInput.Turned w s.ur s.us 256 f l w') : ∃ sv, QAt w' { s with us := sv } { x with uf := f, ul := l } ∧ Touch (fpQ s) w w' ∧ ∀ k, fpQ { s with us := sv } k → fpQ s k ∨ w.heap.size ≤ k := by
  obtain ⟨sv, hA, hT, hF⟩ := ht
  have hq := ring_ne h.1 h.2.2.1
  refine ⟨sv, ⟨h.1.touch hT hq, h.2.1.touch hT (fun k hk hk2 => h.2.2.2 k hk hk2), hA, fun k hk hk2 => ?_⟩, hT.mono (fun k hk => .inl (.inr (.inr hk))), fun k hk => ?_⟩
  · rcases hF k hk2 with h1 | h1
    · exact h.2.2.2 k hk h1
    · have := h.2.1.lt k hk; omega
  · rcases hk with e | e | e
    · exact .inl (.inl e)
    · exact .inl (.inr (.inl e))
    · exact (hF k e).imp (fun e => .inr (.inr e)) id
theorem QAt.setLast (h : QAt w s x) (v : Int) : QAt (w.setCell ⟨s.q, 2, none⟩ (.int .u16 v)) s { x with last := v } := by
  have hT : Touch (fun k => k = s.q) w (w.setCell ⟨s.q, 2, none⟩ (.int .u16 v)) := (Touch.refl (fun k => k = s.q) w).setCell (p := ⟨s.q, 2, none⟩) (Or.inl rfl) _
  exact ⟨h.1.set_ 2 _, h.2.1.touch hT (fun k hk e => ring_ne h.1 h.2.1 (e ▸ hk)), h.2.2.1.touch hT (fun k hk e => ring_ne h.1 h.2.2.1 (e ▸ hk)), h.2.2.2⟩
theorem QAt.setWrong (h : QAt w s x) (v : Int) : QAt (w.setCell ⟨s.q, 4, none⟩ (.int .i64 v)) s { x with wrong := v } := by
  have hT : Touch (fun k => k = s.q) w (w.setCell ⟨s.q, 4, none⟩ (.int .i64 v)) := (Touch.refl (fun k => k = s.q) w).setCell (p := ⟨s.q, 4, none⟩) (Or.inl rfl) _
  exact ⟨h.1.set_ 4 _, h.2.1.touch hT (fun k hk e => ring_ne h.1 h.2.1 (e ▸ hk)), h.2.2.1.touch hT (fun k hk e => ring_ne h.1 h.2.2.1 (e ▸ hk)), h.2.2.2⟩
theorem touch_q (w : World) (s : S) (i : Nat) (u : Value) : Touch (fpQ s) w (w.setCell ⟨s.q, i, none⟩ u) := (Touch.refl (fpQ s) w).setCell (p := ⟨s.q, i, none⟩) (Or.inl (Or.inl rfl)) _
theorem TurnedQ.same (h : QAt w s x) (n : Nat) : TurnedQ w s x (w.drewN n) := ⟨s, rfl, h, (Touch.refl _ _).drewN n, fun _ hk => .inl hk⟩
theorem TurnedQ.drewN {x' : Q} (h : TurnedQ w s x' w') (n : Nat) : TurnedQ w s x' (w'.drewN n) := by
  obtain ⟨s', e, hq, hT, hF⟩ := h
  exact ⟨s', e, hq, hT.drewN n, hF⟩
/-- One turn behind another. -/
theorem TurnedQ.trans {x1 x2 : Q} {w1 w2 : World} (h : TurnedQ w s x1 w1) (k : ∀ s1, s1.q = s.q → QAt w1 s1 x1 → TurnedQ w1 s1 x2 w2) : TurnedQ w s x2 w2 := by
  obtain ⟨s1, e1, h1, T1, F1⟩ := h
  obtain ⟨s2, e2, h2, T2, F2⟩ := k s1 e1 h1
  refine ⟨s2, e2.trans e1, h2, T1.trans T2 F1, fun k hk => ?_⟩
  rcases F2 k hk with a | a
  · exact F1 k a
  · exact .inr (Nat.le_trans T1.size a)
end

set_option maxHeartbeats 400000 in
theorem wrong_any (w : World) (s : S) (x : Q) (h : QAt w s x) :
    Calls Tryz.prog 50 #[.pointer (some ⟨s.q, 0, none⟩)] w fun e w' => e = .returned (.int .i64 x.wrong) ∧ w = w' := by
  obtain ⟨⟨c0, c1, c2, c3, c4⟩, f2, f4⟩ := h.cells
  go_enter Tryz.func50, Tryz.ntmps50
  go_wp2
  go_ret
  exact ⟨rfl, rfl⟩

set_option maxHeartbeats 400000 in
theorem right_any (w : World) (s : S) (x : Q) (h : QAt w s x) :
    Calls Tryz.prog 67 #[.pointer (some ⟨s.q, 0, none⟩)] w fun e w' => e = .returned (.tuple #[]) ∧ TurnedQ w s { x with wrong := -1 } w' := by
  obtain ⟨⟨c0, c1, c2, c3, c4⟩, f2, f4⟩ := h.cells
  go_enter Tryz.func67, Tryz.ntmps67
  go_wp2
  go_end0
  exact ⟨rfl, s, rfl, h.setWrong _, touch_q _ _ _ _, fun _ hk => .inl hk⟩

set_option maxHeartbeats 400000 in
theorem next_any (w : World) (s : S) (x : Q) (h : QAt w s x) (ok : Ok x) :
    Calls Tryz.prog 41 #[.pointer (some ⟨s.q, 0, none⟩)] w fun e w' => e = .returned (.int .i64 (x.kf + x.kl.length)) ∧ ∃ n, w' = w.drewN n := by
  obtain ⟨⟨c0, c1, c2, c3, c4⟩, f2, f4⟩ := h.cells
  obtain ⟨o1, o2, o3, o4, o5, o6⟩ := ok
  have p := Lib.hid (RingInput.next_any w s.kr 256 x.kf s.ks x.kl h.2.1 o1 (by omega))
  go_enter Tryz.func41, Tryz.ntmps41
  go_wp2_with (go_at_call 71; refine p.out.mono ?_; rintro e w' ⟨rfl, nq, rfl⟩)
  go_ret
  exact ⟨rfl, _, rfl⟩

/-- What Think answers. -/
def thinkV (x : Q) (n : Int) : Int := if n < x.kf then 0 else if n - x.kf ≥ x.kl.length then x.last else nth x.kl (n - x.kf).toNat
def thinkK (x : Q) (n : Int) : Bool := decide (x.kf ≤ n) && decide (n - x.kf < x.kl.length)
def thinkE (x : Q) (n : Int) : Int := if n < x.kf then 90 else 0

set_option maxRecDepth 100000 in
set_option maxHeartbeats 1000000 in
theorem think_any (w : World) (s : S) (x : Q) (n : Int) (h : QAt w s x) (ok : Ok x) (hn : n ≤ 9223372036854775807) :
    Calls Tryz.prog 27 #[.pointer (some ⟨s.q, 0, none⟩), .int .i64 n] w fun e w' => e = .returned (.tuple #[.int .u16 (thinkV x n), .bool (thinkK x n), .int .i64 (thinkE x n)]) ∧ ∃ n, w' = w.drewN n := by
  obtain ⟨⟨c0, c1, c2, c3, c4⟩, f2, f4⟩ := h.cells
  obtain ⟨o1, o2, o3, o4, o5, o6⟩ := ok
  have p := RingInput.at_any w s.kr 256 x.kf n s.ks x.kl h.2.1 o1 hn
  by_cases b0 : n < x.kf
  · rw [RingInput.atV, RingInput.atE, if_pos b0, if_pos b0] at p
    have e1 := Lib.hid (show thinkV x n = 0 by rw [thinkV, if_pos b0])
    have e2 := Lib.hid (show thinkK x n = false by simp [thinkK]; omega)
    have e3 := Lib.hid (show thinkE x n = 90 by rw [thinkE, if_pos b0])
    have p := Lib.hid p
    go_enter Tryz.func27, Tryz.ntmps27
    go_wp2_with fail
    refine p.out.mono ?_
    rintro e w' ⟨rfl, nq, rfl⟩
    go_wp2_with fail
    refine bodyPost_ret (v := .tuple #[.int .u16 0, .bool false, .int .i64 90]) (by simp [results, Tryz.results27, go_sem]) rfl ⟨?_, nq, rfl⟩
    rw [e1.out, e2.out, e3.out]
  · by_cases b1 : n - x.kf ≥ x.kl.length
    · rw [RingInput.atV, RingInput.atE, if_neg b0, if_neg b0, if_pos b1, if_pos b1] at p
      have e1 := Lib.hid (show thinkV x n = x.last by rw [thinkV, if_neg b0, if_pos b1])
      have e2 := Lib.hid (show thinkK x n = false by simp [thinkK]; omega)
      have e3 := Lib.hid (show thinkE x n = 0 by rw [thinkE, if_neg b0])
      have p := Lib.hid p
      go_enter Tryz.func27, Tryz.ntmps27
      go_wp2_with fail
      refine p.out.mono ?_
      rintro e w' ⟨rfl, nq, rfl⟩
      go_wp2_with fail
      refine bodyPost_ret (v := .tuple #[.int .u16 x.last, .bool false, .int .i64 0]) (by simp [results, Tryz.results27, go_sem]) rfl ⟨?_, nq, rfl⟩
      rw [e1.out, e2.out, e3.out]
    · rw [RingInput.atV, RingInput.atE, if_neg b0, if_neg b0, if_neg b1, if_neg b1] at p
      have e1 := Lib.hid (show thinkV x n = nth x.kl (n - x.kf).toNat by rw [thinkV, if_neg b0, if_neg b1])
      have e2 := Lib.hid (show thinkK x n = true by simp [thinkK]; omega)
      have e3 := Lib.hid (show thinkE x n = 0 by rw [thinkE, if_neg b0])
      have p := Lib.hid p
      go_enter Tryz.func27, Tryz.ntmps27
      go_wp2_with fail
      refine p.out.mono ?_
      rintro e w' ⟨rfl, nq, rfl⟩
      go_wp2_with fail
      refine bodyPost_ret (v := .tuple #[.int .u16 (nth x.kl (n - x.kf).toNat), .bool true, .int .i64 0]) (by simp [results, Tryz.results27, go_sem]) rfl ⟨?_, nq, rfl⟩
      rw [e1.out, e2.out, e3.out]
end Go.Proofs.YtckkpgopddnkiaaGreat.Inputq
namespace Go.Proofs.YtckkpgopddnkiaaGreat.Inputq
open Go.RowKit

def addW (x : Q) (v : Int) : Int :=
  if RingInput.atE x.uf x.ul.length (x.kf + x.kl.length) = 0 ∧ RingInput.atV x.uf x.ul (x.kf + x.kl.length) ≠ v ∧ (x.wrong < 0 ∨ x.kf + x.kl.length < x.wrong) then x.kf + x.kl.length else x.wrong
def addQ (x : Q) (v : Int) : Q := { x with kf := RingInput.putF 256 x.kf x.kl, kl := RingInput.putL 256 x.kl v, last := v, wrong := addW x v }

theorem at_code (f : Int) (l : List Int) (n : Int) : RingInput.atE f l.length n = 0 ∨ RingInput.atE f l.length n = 90 ∨ RingInput.atE f l.length n = 91 := by
  unfold RingInput.atE
  split
  · exact .inr (.inl rfl)
  · split
    · exact .inr (.inr rfl)
    · exact .inl rfl

set_option maxRecDepth 100000 in
set_option maxHeartbeats 4000000 in
theorem add_any (w : World) (s : S) (x : Q) (v : Int) (h : QAt w s x) (ok : Ok x) :
    Calls Tryz.prog 37 #[.pointer (some ⟨s.q, 0, none⟩), .int .u16 v] w fun e w' => e = .returned (.int .i64 (x.kf + x.kl.length)) ∧ TurnedQ w s (addQ x v) w' := by
  obtain ⟨⟨c0, c1, c2, c3, c4⟩, f2, f4⟩ := h.cells
  have ok' := ok
  obtain ⟨o1, o2, o3, o4, o5, o6⟩ := ok
  have p := Lib.hid (RingInput.put_any w s.kr 256 x.kf v s.ks x.kl h.2.1 o1 (by omega) (by omega) (by omega))
  have key : ∀ (nn a ec : Int) (wr : Int), nn = x.kf + x.kl.length → a = RingInput.atV x.uf x.ul nn → ec = RingInput.atE x.uf x.ul.length nn → wr = x.wrong → Calls Tryz.prog 37 #[.pointer (some ⟨s.q, 0, none⟩), .int .u16 v] w fun e w' => e = .returned (.int .i64 (x.kf + x.kl.length)) ∧ TurnedQ w s (addQ x v) w' := by
    intro nn a ec wr hn ha hec hwr
    have hq := RingInput.at_any
    have HN := Lib.hid hn
    have HA := Lib.hid ha
    have HE := Lib.hid hec
    have HW := Lib.hid hwr
    have hnb : nn ≤ 9223372036854775807 := by omega
    have hnb0 : 0 ≤ nn := by omega
    clear hn ha hec hwr hq o1 o2 o3 o4 o5 o6
    have hadd : addW x v = if ec = 0 ∧ a ≠ v ∧ (wr < 0 ∨ nn < wr) then nn else wr := by rw [addW, HE.out, HA.out, HW.out, HN.out]
    have HADD := Lib.hid hadd
    clear hadd
    rw [← HN.out] at p
    rw [← HN.out]
    rw [← HW.out] at c4
    go_enter Tryz.func37, Tryz.ntmps37
    go_wp2_with fail
    refine p.out.mono ?_
    rintro e w1 ⟨rfl, ht⟩
    obtain ⟨sv, h1, T1, F1⟩ := h.known ht
    obtain ⟨⟨d0, d1, d2, d3, d4⟩, g2, g4⟩ := h1.cells
    have h2 := h1.setLast v
    dsimp only at d0 d1 d2 d3 d4 g2 g4
    rw [← HW.out] at d4
    have p2 := RingInput.at_any _ s.ur 256 x.uf nn s.us x.ul h2.2.2.1 ok'.2.1 hnb
    rw [← HA.out, ← HE.out] at p2
    have P2 := Lib.hid p2
    clear p2
    have T2 := T1.trans (touch_q w1 { s with ks := sv } 2 (.int .u16 v)) (fun k hk => F1 k hk)
    have hno : Hid (∀ n, addW x v = wr → TurnedQ w s (addQ x v) ((w1.setCell ⟨s.q, 2, none⟩ (.int .u16 v)).drewN n)) := fun n e => ⟨{ s with ks := sv }, rfl, by rw [addQ, e, HW.out]; exact h2, T2.drewN n, F1⟩
    have hyes : Hid (∀ n, addW x v = nn → TurnedQ w s (addQ x v) (((w1.setCell ⟨s.q, 2, none⟩ (.int .u16 v)).setCell ⟨s.q, 4, none⟩ (.int .i64 nn)).drewN n)) := fun n e =>
      ⟨{ s with ks := sv }, rfl, by rw [addQ, e]; exact h2.setWrong nn, (T2.trans (touch_q _ { s with ks := sv } 4 (.int .i64 nn)) F1).drewN n, F1⟩
    clear h1 h2 T1 T2 F1 ht h
    go_wp2_with (go_at_call 52; refine P2.out.mono ?_; rintro e w2 ⟨rfl, nq, rfl⟩)
    all_goals
      go_ret
      refine ⟨rfl, ?_⟩
      first
        | (refine hno.out _ ?_; rw [HADD.out]; refine if_neg ?_; rintro ⟨p1, p2, p3⟩; simp_all; omega)
        | (refine hno.out _ ?_; rw [HADD.out]; refine if_neg ?_; rintro ⟨p1, p2, p3⟩; simp_all; done)
        | (refine hyes.out _ ?_; rw [HADD.out]; refine if_pos ⟨?_, ?_, ?_⟩ <;> first | assumption | omega | simp_all)
        | trace_state
  exact key _ _ _ _ rfl rfl rfl rfl


def useQ (x : Q) (n : Int) : Q :=
  if n > x.uf + x.ul.length then x else if n < x.kf then x else
  if n = x.uf + x.ul.length then { x with uf := RingInput.putF 256 x.uf x.ul, ul := RingInput.putL 256 x.ul (thinkV x n) } else { x with ul := RingInput.setL x.uf x.ul n (thinkV x n) }
def useE (x : Q) (n : Int) : Int := if n > x.uf + x.ul.length then 210 else thinkE x n
def useV (x : Q) (n : Int) : Int := if useE x n = 0 then thinkV x n else 0
def useK (x : Q) (n : Int) : Bool := if useE x n = 0 then thinkK x n else false

theorem TurnedQ.used' {w w' : World} {s : S} {x x' : Q} {f : Int} {l : List Int} {n : Nat} (h : QAt w s x) (ht : RingInput.Turned (w.drewN n) s.ur s.us 256 f l w') (hx : x' = { x with uf := f, ul := l }) : TurnedQ w s x' w' := by
  subst hx
  obtain ⟨sv, h1, T1, F1⟩ := (h.drewN n).used ht
  exact ⟨{ s with us := sv }, rfl, h1, ⟨T1.os, T1.tape, T1.output, T1.size, T1.block⟩, F1⟩

set_option maxRecDepth 100000 in
set_option maxHeartbeats 4000000 in
theorem use_any (w : World) (s : S) (x : Q) (n : Int) (h : QAt w s x) (ok : Ok x) (hn : n ≤ 9223372036854775807) :
    Calls Tryz.prog 68 #[.pointer (some ⟨s.q, 0, none⟩), .int .i64 n] w fun e w' => e = .returned (.tuple #[.int .u16 (useV x n), .bool (useK x n), .int .i64 (useE x n)]) ∧ TurnedQ w s (useQ x n) w' := by
  obtain ⟨⟨c0, c1, c2, c3, c4⟩, f2, f4⟩ := h.cells
  have ok' := ok
  obtain ⟨o1, o2, o3, o4, o5, o6⟩ := ok
  have p := Lib.hid (fun k => RingInput.next_any (w.drewN k) s.ur 256 x.uf s.us x.ul (h.2.2.1.drewN k) o2 (by omega))
  have p0 := Lib.hid (RingInput.next_any w s.ur 256 x.uf s.us x.ul h.2.2.1 o2 (by omega))
  have t := fun k => think_any (w.drewN k) s x n (h.drewN k) ok' hn
  by_cases b0 : n > x.uf + x.ul.length
  · have e1 := Lib.hid (show useQ x n = x by rw [useQ, if_pos b0])
    have e2 := Lib.hid (show useE x n = 210 by rw [useE, if_pos b0])
    have e3 := Lib.hid (show useV x n = 0 by rw [useV, e2.out, if_neg (by omega)])
    have e4 := Lib.hid (show useK x n = false by rw [useK, e2.out, if_neg (by omega)])
    go_enter Tryz.func68, Tryz.ntmps68
    go_wp2_with fail
    refine p0.out.mono ?_
    rintro e w1 ⟨rfl, nq, rfl⟩
    go_wp2_with fail
    refine bodyPost_ret (v := .tuple #[.int .u16 0, .bool false, .int .i64 210]) (by simp [results, Tryz.results68, go_sem]) rfl ⟨?_, ?_⟩
    · rw [e2.out, e3.out, e4.out]
    · rw [e1.out]; exact .same h _
  · have hE : useE x n = thinkE x n := by rw [useE, if_neg b0]
    by_cases b1 : n < x.kf
    · have te : thinkE x n = 90 := by rw [thinkE, if_pos b1]
      rw [te] at t
      have t := Lib.hid t
      have e1 := Lib.hid (show useQ x n = x by rw [useQ, if_neg b0, if_pos b1])
      have e2 := Lib.hid (hE.trans te)
      have e3 := Lib.hid (show useV x n = 0 by rw [useV, e2.out, if_neg (by omega)])
      have e4 := Lib.hid (show useK x n = false by rw [useK, e2.out, if_neg (by omega)])
      clear hE te
      go_enter Tryz.func68, Tryz.ntmps68
      go_wp2_with fail
      refine p0.out.mono ?_
      rintro e w1 ⟨rfl, nq, rfl⟩
      go_wp2_with fail
      refine (t.out _).mono ?_
      rintro e w1 ⟨rfl, nq2, rfl⟩
      go_wp2_with fail
      refine bodyPost_ret (v := .tuple #[.int .u16 0, .bool false, .int .i64 90]) (by simp [results, Tryz.results68, go_sem]) rfl ⟨?_, ?_⟩
      · rw [e2.out, e3.out, e4.out]
      · rw [e1.out]; exact .same h _
    · have te : thinkE x n = 0 := by rw [thinkE, if_neg b1]
      rw [te] at t
      have t := Lib.hid t
      have e2 := Lib.hid (hE.trans te)
      have e3 := Lib.hid (show useV x n = thinkV x n by rw [useV, e2.out, if_pos rfl])
      have e4 := Lib.hid (show useK x n = thinkK x n by rw [useK, e2.out, if_pos rfl])
      clear hE te
      by_cases b2 : n = x.uf + x.ul.length
      · have hb2 : (n == x.uf + x.ul.length) = true := by simpa using b2
        have e1 := Lib.hid (show useQ x n = { x with uf := RingInput.putF 256 x.uf x.ul, ul := RingInput.putL 256 x.ul (thinkV x n) } by rw [useQ, if_neg b0, if_neg b1, if_pos b2])
        have pp := Lib.hid (fun k => RingInput.put_any (w.drewN k) s.ur 256 x.uf (thinkV x n) s.us x.ul (h.2.2.1.drewN k) o2 (by omega) (by omega) (by omega))
        clear b2
        go_enter Tryz.func68, Tryz.ntmps68
        go_wp2_with fail
        refine p0.out.mono ?_
        rintro e w1 ⟨rfl, nq, rfl⟩
        go_wp2_with fail
        refine (t.out _).mono ?_
        rintro e w1 ⟨rfl, nq2, rfl⟩
        go_wp2_with fail
        refine (p.out _).mono ?_
        rintro e w1 ⟨rfl, nq3, rfl⟩
        go_wp2_with fail
        refine (pp.out _).mono ?_
        rintro e w1 ⟨rfl, ht⟩
        go_wp2_with fail
        refine bodyPost_ret (v := .tuple #[.int .u16 (thinkV x n), .bool (thinkK x n), .int .i64 0]) (by simp [results, Tryz.results68, go_sem]) rfl ⟨?_, ?_⟩
        · rw [e2.out, e3.out, e4.out]
        · exact .used' h ht e1.out
      · have hb2 : (n == x.uf + x.ul.length) = false := by simpa using b2
        have e1 := Lib.hid (show useQ x n = { x with ul := RingInput.setL x.uf x.ul n (thinkV x n) } by rw [useQ, if_neg b0, if_neg b1, if_neg b2])
        have pp := Lib.hid (fun k => RingInput.set_any (w.drewN k) s.ur 256 x.uf n (thinkV x n) s.us x.ul (h.2.2.1.drewN k) o2 hn)
        clear b2
        go_enter Tryz.func68, Tryz.ntmps68
        go_wp2_with fail
        refine p0.out.mono ?_
        rintro e w1 ⟨rfl, nq, rfl⟩
        go_wp2_with fail
        refine (t.out _).mono ?_
        rintro e w1 ⟨rfl, nq2, rfl⟩
        go_wp2_with fail
        refine (p.out _).mono ?_
        rintro e w1 ⟨rfl, nq3, rfl⟩
        go_wp2_with fail
        refine (pp.out _).mono ?_
        rintro e w1 ⟨rfl, ht⟩
        go_wp2_with fail
        refine bodyPost_ret (v := .tuple #[.int .u16 (thinkV x n), .bool (thinkK x n), .int .i64 0]) (by simp [results, Tryz.results68, go_sem]) rfl ⟨?_, ?_⟩
        · rw [e2.out, e3.out, e4.out]
        · exact .used' h ht e1.out


def dropM (x : Q) (n : Int) : Int := if x.uf + x.ul.length < n then x.uf + x.ul.length else n
def dropQ (x : Q) (n : Int) : Q :=
  { x with kf := RingInput.dropF x.kf x.kl.length (dropM x n), kl := RingInput.dropL x.kf x.kl (dropM x n), uf := RingInput.dropF x.uf x.ul.length n, ul := RingInput.dropL x.uf x.ul n }

set_option maxRecDepth 100000 in
set_option maxHeartbeats 4000000 in
theorem drop_any (w : World) (s : S) (x : Q) (n : Int) (h : QAt w s x) (ok : Ok x) (hn : n ≤ 9223372036854775807) :
    Calls Tryz.prog 39 #[.pointer (some ⟨s.q, 0, none⟩), .int .i64 n] w fun e w' => e = .returned (.tuple #[]) ∧ TurnedQ w s (dropQ x n) w' := by
  obtain ⟨⟨c0, c1, c2, c3, c4⟩, f2, f4⟩ := h.cells
  have ok' := ok
  obtain ⟨o1, o2, o3, o4, o5, o6⟩ := ok
  obtain ⟨m, hm⟩ : ∃ m, m = dropM x n := ⟨_, rfl⟩
  have hmin : (if x.uf + (x.ul.length : Int) < n then x.uf + (x.ul.length : Int) else n) = m := hm.symm
  have hmb : m ≤ 9223372036854775807 := by rw [hm, dropM]; split <;> omega
  have HM := Lib.hid hm
  clear hm
  have p := Lib.hid (fun W (hW : W.heap = w.heap) => RingInput.next_any W s.ur 256 x.uf s.us x.ul (h.2.2.1.heap_eq hW) o2 (by omega))
  have pd := Lib.hid (fun W (hW : W.heap = w.heap) => RingInput.drop_any W s.kr 256 x.kf m s.ks x.kl (h.2.1.heap_eq hW) o1 (by omega) (by omega) hmb)
  go_enter Tryz.func39, Tryz.ntmps39
  go_wp2_with fail
  go_region_held3 (fun w' => w'.cell? ⟨s.q, 1, none⟩ = some (.pointer (some ⟨s.kr, 0, none⟩)) ∧ w'.cell? ⟨s.q, 3, none⟩ = some (.pointer (some ⟨s.ur, 0, none⟩))) (first | go_keep | exact ⟨d1, d3⟩)
    (first
      | (go_at_call 71; refine (p.out _ (by rfl)).mono ?_; rintro e w' ⟨rfl, nq, rfl⟩)
      | (go_at_call 70; refine (pd.out _ (by rfl)).mono ?_; rintro e w1 ⟨rfl, ht⟩; obtain ⟨sv, h1, T1, F1⟩ := QAt.known (h.heap_eq (by rfl)) ht; obtain ⟨⟨d0, d1, d2, d3, d4⟩, g2, g4⟩ := h1.cells; dsimp only at d0 d1 d2 d3 d4 g2 g4))
  have pu := Lib.hid (fun W (hW : W.heap = w1.heap) => RingInput.drop_any W s.ur 256 x.uf n s.us x.ul (h1.2.2.1.heap_eq hW) o2 (by omega) (by omega) hn)
  go_wp2_with fail
  refine (pu.out _ (by rfl)).mono ?_
  rintro e w2 ⟨rfl, ht2⟩
  obtain ⟨sv2, h2, T2, F2⟩ := QAt.used (h1.heap_eq (by rfl)) ht2
  go_wp2_with fail
  refine bodyPost_end (results_none rfl _ _ _) rfl ⟨rfl, ?_⟩
  refine ⟨{ s with ks := sv, us := sv2 }, rfl, by rw [dropQ, ← HM.out]; exact h2, ?_, fun k hk => ?_⟩
  · exact Touch.trans (Touch.trans (w1 := w.drewN (1 + nq)) (S := fpQ s) (S' := fpQ s) ⟨rfl, rfl, rfl, Nat.le_refl _, fun _ _ _ => rfl⟩ T1 (fun _ hk => .inl hk)) T2 F1
  · rcases F2 k hk with a | a
    · exact F1 k a
    · exact .inr (Nat.le_trans T1.size a)

def newQ (d : Int) (l : List Int) : Q := { delay := d, kf := 0, kl := l, last := 0, uf := 0, ul := [], wrong := -1 }

set_option maxRecDepth 100000 in
set_option maxHeartbeats 1000000 in
theorem new_no (d : Int) (w : World) (h : d < 0 ∨ 8 < d) :
    Calls Tryz.prog 31 #[.int .i64 d] w fun e w' => e = .returned (.tuple #[.pointer none, .int .i64 1]) ∧ w = w' := by
  rcases h with h | h
  · go_enter Tryz.func31, Tryz.ntmps31
    go_wp2_with fail
    go_ret2
    exact ⟨rfl, rfl⟩
  · have h' : ¬ d < 0 := by omega
    go_enter Tryz.func31, Tryz.ntmps31
    go_wp2_with fail
    go_ret2
    exact ⟨rfl, rfl⟩

/-- A queue that the call itself has made. -/
def Made (w : World) (q : Nat) (x : Q) (w' : World) : Prop := ∃ s, s.q = q ∧ QAt w' s x ∧ Below w.heap.size w w' ∧ ∀ k, fpQ s k → w.heap.size ≤ k
theorem Made.turned {w w1 w2 : World} {q : Nat} {x y : Q} (h : Made w q x w1) (k : ∀ s, s.q = q → QAt w1 s x → TurnedQ w1 s y w2) : Made w q y w2 := by
  obtain ⟨s, e, hq, hb, hF⟩ := h
  obtain ⟨s', e', hq', hT, hF'⟩ := k s e hq
  obtain ⟨b, f, _⟩ := hT.base hF' (B := w.heap.size) hb.size hF
  exact ⟨s', e'.trans e, hq', hb.trans b, f⟩

def NewInv (w : World) (d k : Nat) (wr : World) : Prop :=
  ∃ ks, QAt wr ⟨w.heap.size + 1 + 1, w.heap.size, w.heap.size + 1, ks, .slice none 0 0⟩ (newQ d (List.replicate k 0)) ∧ Below w.heap.size w wr ∧ ∀ j, fpQ ⟨w.heap.size + 1 + 1, w.heap.size, w.heap.size + 1, ks, .slice none 0 0⟩ j → w.heap.size ≤ j

set_option maxRecDepth 100000 in
set_option maxHeartbeats 2000000 in
theorem new_ok (d : Nat) (w : World) (h : d ≤ 8) :
    Calls Tryz.prog 31 #[.int .i64 d] w fun e w' => ∃ q, e = .returned (.tuple #[.pointer (some ⟨q, 0, none⟩), .int .i64 0]) ∧ Made w q (newQ d (List.replicate d 0)) w' := by
  have h0 : ¬ (d : Int) < 0 := by omega
  have h1 : ¬ 8 < (d : Int) := by omega
  go_enter Tryz.func31, Tryz.ntmps31
  go_wp2_with fail
  refine (RingInput.new_ok 256 _ (by omega) (by omega)).mono ?_
  rintro e w1 ⟨rfl, rfl⟩
  go_wp2_with fail
  refine (RingInput.new_ok 256 _ (by omega) (by omega)).mono ?_
  rintro e w1 ⟨rfl, rfl⟩
  go_wp2_with fail
  go_loopw [29] (fun i wr => ∃ k : Nat, k ≤ d ∧ i = .int .i64 k ∧ NewInv w d k wr) (fun i _ => d - (intOf i).toNat)
  case atStart =>
    refine ⟨0, Nat.zero_le _, rfl, .slice none 0 0, ⟨?_, ?_, ?_, ?_⟩, ?_, ?_⟩
    · have := Blk.new ((w.alloc (.cells #[.int .i64 256, .int .i64 0, .slice none 0 0] 125)).alloc (.cells #[.int .i64 256, .int .i64 0, .slice none 0 0] 125)) 107 #[.int .i64 d, .pointer (some ⟨w.heap.size, 0, none⟩), .int .u16 0, .pointer (some ⟨w.heap.size + 1, 0, none⟩), .int .i64 (-1)]
      simpa [newQ] using this
    · exact ((RingInput.at_new w 256).alloc _).alloc _
    · have := (RingInput.at_new (w.alloc (.cells #[.int .i64 256, .int .i64 0, .slice none 0 0] 125)) 256).alloc (.cells #[.int .i64 d, .pointer (some ⟨w.heap.size, 0, none⟩), .int .u16 0, .pointer (some ⟨w.heap.size + 1, 0, none⟩), .int .i64 (-1)] 107)
      simpa [newQ] using this
    · rintro k (a | a) (b | b)
      · dsimp only at a b; omega
      · simp [Value.ownBlock] at b
      · simp [Value.ownBlock] at a
      · simp [Value.ownBlock] at a
    · exact (((Below.refl _ _).alloc (Nat.le_refl _) _).alloc (by simp) _).alloc (by simp; omega) _
    · rintro k (a | a | a)
      · dsimp only at a; omega
      · rcases a with a | a
        · dsimp only at a; omega
        · simp [Value.ownBlock] at a
      · rcases a with a | a
        · dsimp only at a; omega
        · simp [Value.ownBlock] at a
  case round =>
    obtain ⟨k, hk, rfl, ks, hq, hb, hF⟩ := hrel
    obtain ⟨⟨c0, c1, c2, c3, c4⟩, f2, f4⟩ := hq.cells
    dsimp only [newQ] at c0 c1 c2 c3 c4
    by_cases hlt : k < d
    · have p := Lib.hid (RingInput.put_any wr w.heap.size 256 0 0 ks _ hq.2.1 (by omega) (by simp [newQ]; omega) (by simp [newQ]; omega) (by omega))
      go_wp2_with fail
      refine p.out.mono ?_
      rintro e w2 ⟨rfl, ht⟩
      have hrep : (newQ d (List.replicate (k + 1) 0)) = { (newQ d (List.replicate k 0)) with kf := RingInput.putF 256 0 (List.replicate k 0), kl := RingInput.putL 256 (List.replicate k 0) 0 } := by
        have e1 : ¬ (((List.replicate k (0 : Int)).length : Int) = 256) := by simp; omega
        rw [RingInput.putF, RingInput.putL, if_neg e1, if_neg e1, newQ, newQ, List.replicate_succ']
      have hrep := Lib.hid hrep
      obtain ⟨sv, h2, T2, F2⟩ := hq.known ht
      obtain ⟨b2, f2', _⟩ := T2.base F2 (B := w.heap.size) hb.size hF
      go_wp2_with fail
      go_roundw
      case rel => exact ⟨k + 1, by omega, by go_num, sv, by rw [hrep.out]; exact h2, hb.trans b2, f2'⟩
      case measure => simp [intOf]; omega
    · obtain rfl : k = d := by omega
      go_wp2_with fail
      go_ret2
      exact ⟨_, rfl, _, rfl, hq, hb, hF⟩

end Go.Proofs.YtckkpgopddnkiaaGreat.Inputq
namespace Go.Proofs.YtckkpgopddnkiaaGreat
open Go.RowKit

def flat {α : Type} (cs : α → List Value) (l : List α) : List Value := l.flatMap cs
section
variable {α : Type} {cs : α → List Value} {s : Nat}
theorem flat_len (hs : ∀ x, (cs x).length = s) (l : List α) : (flat cs l).length = l.length * s := by
  induction l with
  | nil => simp [flat]
  | cons x l ih =>
    unfold flat at ih ⊢
    rw [List.flatMap_cons, List.length_append, ih, hs, List.length_cons, Nat.add_mul]; omega
theorem flat_snoc (l : List α) (x : α) : flat cs (l ++ [x]) = flat cs l ++ cs x := by simp [flat]
theorem flat_app (l m : List α) : flat cs (l ++ m) = flat cs l ++ flat cs m := by simp [flat]
theorem flat_drop (hs : ∀ x, (cs x).length = s) (l : List α) (k : Nat) : (flat cs l).drop (k * s) = flat cs (l.drop k) := by
  by_cases hk : k ≤ l.length
  · conv => lhs; rw [← List.take_append_drop k l, flat_app]
    have : (flat cs (l.take k)).length = k * s := by rw [flat_len hs, List.length_take, Nat.min_eq_left hk]
    rw [← this]
    exact List.drop_left
  · rw [List.drop_of_length_le (by rw [flat_len hs]; exact Nat.mul_le_mul_right _ (by omega)), List.drop_of_length_le (by omega)]; rfl
theorem flat_take (hs : ∀ x, (cs x).length = s) (l : List α) (k : Nat) : (flat cs l).take (k * s) = flat cs (l.take k) := by
  by_cases hk : k ≤ l.length
  · conv => lhs; rw [← List.take_append_drop k l, flat_app]
    have : (flat cs (l.take k)).length = k * s := by rw [flat_len hs, List.length_take, Nat.min_eq_left hk]
    rw [← this]
    exact List.take_left
  · rw [List.take_of_length_le (by rw [flat_len hs]; exact Nat.mul_le_mul_right _ (by omega)), List.take_of_length_le (by omega)]
theorem flat_get (hs : ∀ x, (cs x).length = s) (l : List α) {j i : Nat} {x : α} (hj : l[j]? = some x) (hi : i < s) : (flat cs l)[j * s + i]? = (cs x)[i]? := by
  have hjl := (List.getElem?_eq_some_iff.1 hj).1
  have h1 := flat_drop hs l j
  rw [← List.getElem?_drop, h1]
  have h2 : l.drop j = x :: l.drop (j + 1) := by
    rw [List.drop_eq_getElem_cons hjl]
    rw [List.getElem?_eq_getElem hjl] at hj
    cases hj; rfl
  rw [h2]
  unfold flat
  rw [List.flatMap_cons, List.getElem?_append_left (by rw [hs]; exact hi)]
theorem one_flat (h : ∀ x, ∀ u ∈ cs x, u.oneCell' = true) (l : List α) : ∀ u ∈ flat cs l, u.oneCell' = true := by
  intro u hu
  obtain ⟨x, _, hx⟩ := List.mem_flatMap.1 hu
  exact h x u hx
end
/-- The source is the end of a slice at a block's head. -/
theorem src_drop_n {w : World} {e : TypeId} {size g n cap : Nat} {xs : List Value} (h : On w e size (.slice (some ⟨g, 0, none⟩) n cap) n xs) (k : Nat) : Src w (some ⟨g, k * size, none⟩) (n - k) (xs.drop (k * size)) := by
  refine .inr ⟨_, rfl, fun j u hu => ?_⟩
  rcases h.form with ⟨hv, _⟩ | ⟨g', cap', hv, _, _, _, _, hc, _⟩
  · cases hv
  · cases hv
    have hadd : (⟨g, k * size, none⟩ : Addr).add j = ⟨g, k * size + j, none⟩ := by unfold Addr.add; split <;> simp_all
    rw [hadd]
    exact hc _ u (by rw [← hu, List.getElem?_drop])
/-- The source is a block just laid. -/
theorem src_new (w : World) (e : TypeId) (size : Nat) (cs : List Value) : Src (w.alloc (.cells cs.toArray e)) (some ⟨w.heap.size, 0, none⟩) size cs := by
  refine .inr ⟨_, rfl, fun j u hu => ?_⟩
  have hadd : (⟨w.heap.size, 0, none⟩ : Addr).add j = ⟨w.heap.size, j, none⟩ := by unfold Addr.add; split <;> simp_all
  rw [hadd, (Blk.new w e cs.toArray).cell j]
  simpa using hu
end Go.Proofs.YtckkpgopddnkiaaGreat
namespace Go.Proofs.YtckkpgopddnkiaaGreat
set_option linter.all false

/-- The i-th digit. -/
def dig (n i : Nat) : Nat := n / 65536 ^ i % 65536
theorem dig_lt (n i : Nat) : dig n i < 65536 := Nat.mod_lt _ (by decide)
theorem pow_pos' (i : Nat) : 0 < 65536 ^ i := Nat.pow_pos (by decide)
theorem mod_succ (n i : Nat) : n % 65536 ^ (i + 1) = n % 65536 ^ i + 65536 ^ i * dig n i := by
  unfold dig; rw [Nat.pow_succ, Nat.mod_mul]
theorem div_succ (n i : Nat) : n / 65536 ^ i = dig n i + 65536 * (n / 65536 ^ (i + 1)) := by
  unfold dig
  rw [Nat.pow_succ, ← Nat.div_div_eq_div_mul]
  omega
theorem dig_big {n i : Nat} (h : n < 65536 ^ i) : dig n i = 0 := by unfold dig; rw [Nat.div_eq_of_lt h]
theorem dig_big' {n i j : Nat} (h : n < 65536 ^ i) (hj : i ≤ j) : dig n j = 0 := dig_big (Nat.lt_of_lt_of_le h (Nat.pow_le_pow_right (by decide) hj))

/-! addition -/
def car (m n i : Nat) : Nat := (m % 65536 ^ i + n % 65536 ^ i) / 65536 ^ i
theorem car_zero (m n : Nat) : car m n 0 = 0 := by simp [car, Nat.mod_one]
theorem car_le (m n i : Nat) : car m n i ≤ 1 := by
  unfold car
  have hp := pow_pos' i
  have a := Nat.mod_lt m hp
  have b := Nat.mod_lt n hp
  have : (m % 65536 ^ i + n % 65536 ^ i) / 65536 ^ i < 2 := (Nat.div_lt_iff_lt_mul hp).2 (by omega)
  omega
theorem div_add_car (m n i : Nat) : (m + n) / 65536 ^ i = m / 65536 ^ i + n / 65536 ^ i + car m n i := by
  unfold car
  have hp := pow_pos' i
  conv => lhs; rw [← Nat.div_add_mod m (65536 ^ i), ← Nat.div_add_mod n (65536 ^ i)]
  rw [show 65536 ^ i * (m / 65536 ^ i) + m % 65536 ^ i + (65536 ^ i * (n / 65536 ^ i) + n % 65536 ^ i) = (m % 65536 ^ i + n % 65536 ^ i) + 65536 ^ i * (m / 65536 ^ i + n / 65536 ^ i) by rw [Nat.mul_add]; omega]
  rw [Nat.add_mul_div_left _ _ hp]
  omega
theorem add_dig (m n i : Nat) : (dig m i + dig n i + car m n i) % 65536 = dig (m + n) i := by
  have h := div_add_car m n i
  unfold dig
  rw [h]
  omega
theorem add_car (m n i : Nat) : (dig m i + dig n i + car m n i) / 65536 = car m n (i + 1) := by
  have h := div_add_car m n i
  have h1 := div_add_car m n (i + 1)
  have a := div_succ m i
  have b := div_succ n i
  have c := div_succ (m + n) i
  have d := add_dig m n i
  omega

/-! subtraction -/
def bor (m n i : Nat) : Nat := if m % 65536 ^ i < n % 65536 ^ i then 1 else 0
theorem bor_zero (m n : Nat) : bor m n 0 = 0 := by simp [bor, Nat.mod_one]
theorem bor_le (m n i : Nat) : bor m n i ≤ 1 := by unfold bor; split <;> omega
theorem div_sub_bor (m n i : Nat) (h : n ≤ m) : (m - n) / 65536 ^ i + n / 65536 ^ i + bor m n i = m / 65536 ^ i := by
  have hp := pow_pos' i
  have hm := Nat.div_add_mod m (65536 ^ i)
  have hn := Nat.div_add_mod n (65536 ^ i)
  have lm := Nat.mod_lt m hp
  have ln := Nat.mod_lt n hp
  generalize hB : 65536 ^ i = B at *
  have hq : n / B ≤ m / B := Nat.div_le_div_right h
  unfold bor
  rw [hB]
  split
  · rename_i hlt
    have hq2 : n / B + 1 ≤ m / B := by
      rcases Nat.lt_or_ge (n / B) (m / B) with h1 | h1
      · omega
      · have : m / B = n / B := by omega
        rw [this] at hm; omega
    obtain ⟨k, hk⟩ : ∃ k, m / B = n / B + 1 + k := ⟨m / B - (n / B + 1), by omega⟩
    have e : m - n = (B + m % B - n % B) + B * k := by
      rw [hk, Nat.mul_add, Nat.mul_add, Nat.mul_one] at hm; omega
    rw [e, Nat.add_mul_div_left _ _ hp, Nat.div_eq_of_lt (by omega), hk]; omega
  · rename_i hge
    obtain ⟨k, hk⟩ : ∃ k, m / B = n / B + k := ⟨m / B - n / B, by omega⟩
    have e : m - n = (m % B - n % B) + B * k := by
      rw [hk, Nat.mul_add] at hm; omega
    rw [e, Nat.add_mul_div_left _ _ hp, Nat.div_eq_of_lt (by omega), hk]; omega
theorem sub_dig (m n i : Nat) (h : n ≤ m) : (dig m i + 65536 - dig n i - bor m n i) % 65536 = dig (m - n) i := by
  have h1 := div_sub_bor m n i h
  have hb := bor_le m n i
  unfold dig
  omega
theorem sub_bor (m n i : Nat) (h : n ≤ m) : 1 - (dig m i + 65536 - dig n i - bor m n i) / 65536 = bor m n (i + 1) := by
  have h0 := div_sub_bor m n i h
  have h1 := div_sub_bor m n (i + 1) h
  have a := div_succ m i
  have b := div_succ n i
  have c := div_succ (m - n) i
  have hb := bor_le m n i
  have hb2 := bor_le m n (i + 1)
  have x := dig_lt m i
  have y := dig_lt n i
  have z := dig_lt (m - n) i
  omega

/-! comparison -/
theorem lt_of_dig {m n i : Nat} (h : m / 65536 ^ (i + 1) = n / 65536 ^ (i + 1)) (hd : dig m i < dig n i) : m < n := by
  have a := div_succ m i
  have b := div_succ n i
  have : m / 65536 ^ i < n / 65536 ^ i := by omega
  exact Nat.lt_of_not_le fun hle => absurd (Nat.div_le_div_right (c := 65536 ^ i) hle) (by omega)
theorem eq_of_dig {m n i : Nat} (h : m / 65536 ^ (i + 1) = n / 65536 ^ (i + 1)) (hd : dig m i = dig n i) : m / 65536 ^ i = n / 65536 ^ i := by
  have a := div_succ m i
  have b := div_succ n i
  omega

/-! product by a digit -/
theorem dig_mul_pow (x i j : Nat) : dig (65536 ^ i * x) (i + j) = dig x j := by
  unfold dig
  rw [Nat.pow_add, ← Nat.div_div_eq_div_mul, Nat.mul_div_cancel_left _ (pow_pos' i)]
theorem dig_mul_pow_lo (x i j : Nat) (h : j < i) : dig (65536 ^ i * x) j = 0 := by
  unfold dig
  obtain ⟨k, rfl⟩ : ∃ k, i = j + (k + 1) := ⟨i - j - 1, by omega⟩
  rw [Nat.pow_add, Nat.mul_assoc, Nat.mul_div_cancel_left _ (pow_pos' j), Nat.pow_succ, Nat.mul_assoc, Nat.mul_comm (65536 ^ k), Nat.mul_assoc]
  exact Nat.mul_mod_right _ _
/-- What is carried behind k digits. -/
def mcar (x b k : Nat) : Nat := x * (b % 65536 ^ k) / 65536 ^ k
theorem mcar_zero (x b : Nat) : mcar x b 0 = 0 := by simp [mcar, Nat.mod_one]
theorem mcar_le (x b k : Nat) (hx : x < 65536) : mcar x b k < 65536 := by
  unfold mcar
  have hp := pow_pos' k
  rw [Nat.div_lt_iff_lt_mul hp]
  have h := Nat.mod_lt b hp
  rcases Nat.eq_zero_or_pos (b % 65536 ^ k) with h0 | h0
  · rw [h0]; omega
  · calc x * (b % 65536 ^ k) ≤ x * 65536 ^ k := Nat.mul_le_mul_left _ (by omega)
      _ < 65536 * 65536 ^ k := Nat.mul_lt_mul_of_pos_right hx hp
theorem div_mul_mcar (x b k : Nat) : x * b / 65536 ^ k = x * (b / 65536 ^ k) + mcar x b k := by
  unfold mcar
  have hp := pow_pos' k
  conv => lhs; rw [← Nat.div_add_mod b (65536 ^ k)]
  rw [Nat.mul_add, Nat.add_comm, show x * (65536 ^ k * (b / 65536 ^ k)) = 65536 ^ k * (x * (b / 65536 ^ k)) by rw [Nat.mul_left_comm], Nat.add_mul_div_left _ _ hp]
  omega
theorem mul_dig (x b k : Nat) : (x * dig b k + mcar x b k) % 65536 = dig (x * b) k := by
  have h := div_mul_mcar x b k
  have hb := div_succ b k
  unfold dig at *
  rw [h]
  conv => rhs; rw [hb]
  rw [Nat.mul_add, show x * (65536 * (b / 65536 ^ (k + 1))) = 65536 * (x * (b / 65536 ^ (k + 1))) by rw [Nat.mul_left_comm]]
  omega
theorem mul_car (x b k : Nat) : (x * dig b k + mcar x b k) / 65536 = mcar x b (k + 1) := by
  have h := div_mul_mcar x b k
  have h1 := div_mul_mcar x b (k + 1)
  have hb := div_succ b k
  have d := mul_dig x b k
  have c := div_succ (x * b) k
  rw [hb, Nat.mul_add, show x * (65536 * (b / 65536 ^ (k + 1))) = 65536 * (x * (b / 65536 ^ (k + 1))) by rw [Nat.mul_left_comm]] at h
  omega
theorem mcar_end (x b k : Nat) (h : b < 65536 ^ k) : mcar x b k = dig (x * b) k ∨ ¬ x < 65536 := by
  by_cases hx : x < 65536
  · left
    have h1 := div_mul_mcar x b k
    rw [Nat.div_eq_of_lt h, Nat.mul_zero, Nat.zero_add] at h1
    have := mcar_le x b k hx
    unfold dig
    rw [h1]; omega
  · exact .inr hx

end Go.Proofs.YtckkpgopddnkiaaGreat
