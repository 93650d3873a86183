/-
  The walks of tsync.Guess, Quality, of backstayref26's, and of backstaylaw26.awake and TsyncGuesses. No condition.
-/
import Derived.Test.YthdppaohagghbaaTsync
namespace Go.Proofs.Ythdppaohagghbaa.Tsync
open Go.RowKit
open RingNote (NT At fp Turned putF putL)
open Num
set_option linter.all false

theorem rheld_any (w : World) (n : Int) : Calls Try.prog 93 #[.int .i64 n] w fun e w' => e = .returned (.int .i64 (hd n)) ∧ w = w' := by
  obtain ⟨m1, h1⟩ : ∃ m, (if n < -1000 then -1000 else n) = m := ⟨_, rfl⟩
  obtain ⟨m2, h2⟩ : ∃ m, (if 1000 < m1 then 1000 else m1) = m := ⟨_, rfl⟩
  have E : hd n = m2 := by
    unfold hd clampV
    rw [← h2, ← h1]
    (repeat' split) <;> omega
  have E := Lib.hid E
  go_enter Try.func93, Try.ntmps93
  go_wp2
  go_ret
  exact ⟨ret_int E.out.symm, rfl⟩

def guessV (f t k : Int) : Int := hd (hold (f - hold (t + k)))
def B64 (n : Int) : Prop := -9223372036854775808 ≤ n ∧ n ≤ 9223372036854775807

set_option maxHeartbeats 1000000 in
theorem guess_any (w : World) (f t k : Int) (hf : B64 f) (ht : B64 t) (hk : B64 k) :
    Calls Try.prog 37 #[.int .i64 f, .int .i64 t, .int .i64 k] w fun e w' => e = .returned (.int .i64 (guessV f t k)) ∧ w = w' := by
  have p1 := Lib.hid (wadd_any w t k ht.1 ht.2 hk.1 hk.2)
  have hb := hold_bd (t + k)
  have p2 := fun W => wsub_any W f (hold (t + k)) hf.1 hf.2 hb.1 hb.2
  have hg : guessV f t k = hd (hold (f - hold (t + k))) := rfl
  generalize hold (t + k) = u at p1 p2 hg
  generalize hold (f - u) = v at p2 hg
  have p2 := Lib.hid p2
  have HG := Lib.hid hg
  clear hg hb
  go_enter Try.func37, Try.ntmps37
  go_wp2_with fail
  refine p1.out.mono ?_
  rintro e w1 ⟨rfl, rfl⟩
  go_wp2_with fail
  refine (p2.out _).mono ?_
  rintro e w1 ⟨rfl, rfl⟩
  go_wp2_with fail
  refine (held_any _ _).mono ?_
  rintro e w1 ⟨rfl, rfl⟩
  go_wp2_with fail
  go_ret
  exact ⟨ret_int (by rw [HG.out]; rfl), rfl⟩

set_option maxHeartbeats 1000000 in
theorem rguess_any (w : World) (f t k : Int) (hf : B64 f) (ht : B64 t) (hk : B64 k) :
    Calls Try.prog 38 #[.int .i64 f, .int .i64 t, .int .i64 k] w fun e w' => e = .returned (.int .i64 (guessV f t k)) ∧ Below w.heap.size w w' := by
  have p1 := Lib.hid (Num.add_any w t k ht.1 ht.2 hk.1 hk.2)
  have hb := hold_bd (t + k)
  have p2 := fun W => Num.sub_any W f (hold (t + k)) hf.1 hf.2 hb.1 hb.2
  have hg : guessV f t k = hd (hold (f - hold (t + k))) := rfl
  generalize hold (t + k) = u at p1 p2 hg
  generalize hold (f - u) = v at p2 hg
  have p2 := Lib.hid p2
  have HG := Lib.hid hg
  clear hg hb
  go_enter Try.func38, Try.ntmps38
  go_wp2_with fail
  refine p1.out.mono ?_
  rintro e w1 ⟨rfl, hb1⟩
  go_wp2_with fail
  refine (p2.out _).mono ?_
  rintro e w2 ⟨rfl, hb2⟩
  go_wp2_with fail
  refine (rheld_any _ _).mono ?_
  rintro e w3 ⟨rfl, rfl⟩
  go_wp2_with fail
  go_ret
  exact ⟨ret_int (by rw [HG.out]), hb1.trans (hb2.mono hb1.size)⟩

def qt (t : Int) : Int := clampV t 0 100
def ql (l : Int) : Int := clampV l 0 65536
theorem qt_bd (t : Int) : 0 ≤ qt t ∧ qt t ≤ 100 := by unfold qt clampV; omega
theorem ql_bd (t : Int) : 0 ≤ ql t ∧ ql t ≤ 65536 := by unfold ql clampV; omega
/-- A mark. -/
def qualV (t l : Int) : Int := (100 - qt t) * (65536 - ql l) / 65536
theorem qmul_bd {a b : Int} (h1 : 0 ≤ a) (h2 : a ≤ 100) (h3 : 0 ≤ b) (h4 : b ≤ 65536) : 0 ≤ a * b ∧ a * b ≤ 6553600 := by
  refine ⟨Int.mul_nonneg h1 h3, ?_⟩
  have := Int.mul_le_mul h2 h4 h3 (by omega)
  omega
theorem qual_bd (t l : Int) : 0 ≤ qualV t l ∧ qualV t l ≤ 100 := by
  have a := qt_bd t
  have b := ql_bd l
  have := @qmul_bd (100 - qt t) (65536 - ql l) (by omega) (by omega) (by omega) (by omega)
  unfold qualV
  omega

set_option maxHeartbeats 1000000 in
theorem qual_any (w : World) (t l : Int) :
    Calls Try.prog 36 #[.int .i64 t, .int .i64 l] w fun e w' => e = .returned (.int .i64 (qualV t l)) ∧ w = w' := by
  have p1 := clamp_any w t 0 100
  have p2 := fun W => clamp_any W l 0 65536
  obtain ⟨a1, a2⟩ := qt_bd t
  obtain ⟨b1, b2⟩ := ql_bd l
  have hq : qualV t l = (100 - qt t) * (65536 - ql l) / 65536 := rfl
  have e1 : clampV t 0 100 = qt t := rfl
  have e2 : clampV l 0 65536 = ql l := rfl
  rw [e1] at p1
  rw [e2] at p2
  clear e1 e2
  generalize qt t = a at p1 hq a1 a2
  generalize ql l = b at p2 hq b1 b2
  have hm := @qmul_bd (100 - a) (65536 - b) (by omega) (by omega) (by omega) (by omega)
  obtain ⟨m1, m2⟩ := hm
  have p1 := Lib.hid p1
  have p2 := Lib.hid p2
  have HQ := Lib.hid hq
  clear hq
  go_enter Try.func36, Try.ntmps36
  go_wp2_with fail
  refine p1.out.mono ?_
  rintro e w1 ⟨rfl, rfl⟩
  go_wp2_with fail
  refine (p2.out _).mono ?_
  rintro e w1 ⟨rfl, rfl⟩
  go_wp2_with fail
  go_ret
  exact ⟨ret_int (by rw [HQ.out]), rfl⟩

set_option maxHeartbeats 1000000 in
theorem rqual_any (w : World) (t l : Int) :
    Calls Try.prog 39 #[.int .i64 t, .int .i64 l] w fun e w' => e = .returned (.int .i64 (qualV t l)) ∧ w = w' := by
  obtain ⟨m1, h1⟩ : ∃ m, (if t < 0 then 0 else t) = m := ⟨_, rfl⟩
  obtain ⟨m2, h2⟩ : ∃ m, (if 100 < m1 then 100 else m1) = m := ⟨_, rfl⟩
  obtain ⟨n1, k1⟩ : ∃ m, (if l < 0 then 0 else l) = m := ⟨_, rfl⟩
  obtain ⟨n2, k2⟩ : ∃ m, (if 65536 < n1 then 65536 else n1) = m := ⟨_, rfl⟩
  have ea : qt t = m2 := by
    unfold qt clampV
    rw [← h2, ← h1]
    (repeat' split) <;> omega
  have eb : ql l = n2 := by
    unfold ql clampV
    rw [← k2, ← k1]
    (repeat' split) <;> omega
  obtain ⟨a1, a2⟩ := qt_bd t
  obtain ⟨b1, b2⟩ := ql_bd l
  have hq : qualV t l = (100 - m2) * (65536 - n2) / 65536 := by unfold qualV; rw [ea, eb]
  rw [ea] at a1 a2
  rw [eb] at b1 b2
  have HQ := Lib.hid hq
  clear ea eb hq
  have hm := @qmul_bd (100 - m2) (65536 - n2) (by omega) (by omega) (by omega) (by omega)
  obtain ⟨c1, c2⟩ := hm
  go_enter Try.func39, Try.ntmps39
  go_wp2
  go_ret
  exact ⟨ret_int HQ.out.symm, rfl⟩

/-- A Sync that the call itself has made. -/
def Made (w : World) (q : Nat) (y : Y) (w' : World) : Prop := ∃ s, s.q = q ∧ SAt w' s y ∧ Below w.heap.size w w' ∧ ∀ k, fpS s k → w.heap.size ≤ k
theorem Made.turned {w w1 w2 : World} {q : Nat} {x y : Y} (h : Made w q x w1) (k : ∀ s, s.q = q → SAt w1 s x → TurnedS w1 s y w2) : Made w q y w2 := by
  obtain ⟨s, e, hq, hb, hF⟩ := h
  obtain ⟨s', e', hq', hT, hF'⟩ := k s e hq
  obtain ⟨b, f, _⟩ := hT.base hF' (B := w.heap.size) hb.size hF
  exact ⟨s', e'.trans e, hq', hb.trans b, f⟩
theorem Made.step {w w1 w2 : World} {s : S} {y : Y} (hb : Below w.heap.size w w1) (hF : ∀ k, fpS s k → w.heap.size ≤ k) (ht : TurnedS w1 s y w2) : Made w s.q y w2 := by
  obtain ⟨s', e', hq', hT, hF'⟩ := ht
  obtain ⟨b, f, _⟩ := hT.base hF' (B := w.heap.size) hb.size hF
  exact ⟨s', e', hq', hb.trans b, f⟩
theorem Made.below {w w1 w2 : World} {q : Nat} {x : Y} (h : Made w q x w1) (hb : Below w1.heap.size w1 w2) : Made w q x w2 := by
  obtain ⟨s, e, hq, hb1, hF⟩ := h
  exact ⟨s, e, hq.below hb, hb1.trans (hb.mono hb1.size), hF⟩

/-- The notes of the example. -/
def exY (k : Nat) : Y := ⟨0, List.replicate k (8, 0), 0, 0, 0⟩
theorem exY_succ {k : Nat} (h : k < 16) : noteY (exY k) 8 0 = exY (k + 1) := by
  have e : hd 8 = 8 ∧ hd 0 = 0 := by decide
  have e1 : ¬ ((List.replicate k ((8 : Int), (0 : Int))).length : Int) = 16 := by simp; omega
  unfold noteY exY putF putL
  rw [if_neg e1, if_neg e1, e.1, e.2, List.replicate_succ']
theorem exY_ok {k : Nat} (h : k ≤ 16) : Ok (exY k) := by
  refine ⟨by simp [exY], by simp [exY]; omega, by simp [exY]; omega, ?_, by simp [exY], by simp [exY], by simp [exY]⟩
  intro x hx
  have := List.eq_of_mem_replicate hx
  subst this
  simp

set_option maxRecDepth 100000 in
set_option maxHeartbeats 2000000 in
theorem awake_any (w : World) : Calls Try.prog 26 #[] w fun e w' => e = .returned (.bool true) ∧ Below w.heap.size w w' := by
  go_enter Try.func26, Try.ntmps26
  go_wp2_with fail
  refine (new_any w).mono ?_
  rintro e w1 ⟨s, rfl, hS, hB, hF⟩
  obtain ⟨q, hq⟩ : ∃ q, q = s.q := ⟨_, rfl⟩
  rw [← hq]
  have hM : Made w q (exY 0) w1 := ⟨s, hq.symm, hS, hB, hF⟩
  clear hq hS hB hF
  go_wp2_with fail
  go_loopw [2] (fun i wr => ∃ k : Nat, k ≤ 16 ∧ i = .int .i64 k ∧ Made w q (exY k) wr) (fun i _ => 16 - (intOf i).toNat)
  case atStart => exact ⟨0, by omega, rfl, hM⟩
  case round =>
    clear hM
    obtain ⟨k, hk, rfl, hM⟩ := hrel
    obtain ⟨s1, e1, hS1, hb1, hF1⟩ := id hM
    by_cases hlt : k < 16
    · have p := note_any wr s1 (exY k) 8 0 hS1 (exY_ok hk)
      rw [exY_succ hlt, e1] at p
      have p := Lib.hid p
      have E1 := Lib.hid e1
      clear e1
      have hlt' : (k : Int) < 16 := by omega
      go_wp2_with fail
      refine p.out.mono ?_
      rintro e w2 ⟨rfl, ht⟩
      go_wp2_with fail
      go_roundw
      case rel => exact ⟨k + 1, by omega, by go_num, by have := Made.step hb1 hF1 ht; rw [E1.out] at this; exact this⟩
      case measure => simp [intOf]; omega
    · obtain rfl : k = 16 := by omega
      have pw := wait_any wr s1 (exY 16) hS1 (exY_ok (by omega))
      have pa := fun W h => ask_any W s1 (exY 16) 0 h (exY_ok (by omega)) (by omega) (by omega)
      have e2 : waitV (exY 16).l = 4 := by decide
      have e3 : askV (exY 16) 0 = 4 := by decide
      have e4 : askY (exY 16) 0 = { exY 16 with next := 30, waits := 1, held := 4 } := by
        unfold askY; rw [e3]; rfl
      rw [e2, e1] at pw
      rw [e3, e4, e1] at pa
      have pw := Lib.hid pw
      have pa := Lib.hid pa
      have E1 := Lib.hid e1
      clear e1 e2 e3 e4
      go_wp2_with fail
      refine pw.out.mono ?_
      rintro e w2 ⟨rfl, hb2⟩
      go_wp2_with fail
      refine (pa.out _ (hS1.below hb2)).mono ?_
      rintro e w3 ⟨rfl, ht3⟩
      have hM3 := Made.step (hb1.trans (hb2.mono hb1.size)) hF1 ht3
      obtain ⟨s3, e5, hS3, hb3, hF3⟩ := hM3
      have pb := ask_any w3 s3 _ 29 hS3 (by
        obtain ⟨o1, o2, o3, o4, o5, o6, o7⟩ := exY_ok (k := 16) (by omega)
        exact ⟨o1, o2, o3, o4, by dsimp only; omega, by dsimp only; omega, by dsimp only; omega⟩) (by omega) (by omega)
      have e6 : askV { exY 16 with next := 30, waits := 1, held := 4 } 29 = 0 := by decide
      rw [e6, e5, E1.out] at pb
      have pb := Lib.hid pb
      have E5 := Lib.hid e5
      clear e5 e6
      go_wp2_with fail
      refine pb.out.mono ?_
      rintro e w4 ⟨rfl, ht4⟩
      have hM4 := Made.step hb3 hF3 ht4
      obtain ⟨s4, e7, hS4, hb4, hF4⟩ := hM4
      clear e7
      go_wp2_with fail
      go_ret
      exact ⟨rfl, hb4⟩

set_option maxRecDepth 100000 in
set_option maxHeartbeats 1000000 in
theorem guesses_law (f t k : Int) (w : World) (hf : B64 f) (ht : B64 t) (hk : B64 k) :
    Calls Try.prog 8 #[.int .i64 f, .int .i64 t, .int .i64 k] w fun e w' => e = .returned (.bool true) ∧ Below w.heap.size w w' := by
  have p1 := fun W => qual_any W f t
  have p2 := fun W => rqual_any W f t
  obtain ⟨q1, q2⟩ := qual_bd f t
  have p3 := fun W => guess_any W f t k hf ht hk
  have p4 := fun W => rguess_any W f t k hf ht hk
  generalize qualV f t = q at p1 p2 q1 q2
  generalize guessV f t k = g at p3 p4
  have p1 := Lib.hid p1
  have p2 := Lib.hid p2
  have p3 := Lib.hid p3
  have p4 := Lib.hid p4
  go_enter Try.func8, Try.ntmps8
  go_wp2_with fail
  refine (awake_any _).mono ?_
  rintro e w1 ⟨rfl, hb1⟩
  go_wp2_with fail
  refine (p1.out _).mono ?_
  rintro e w2 ⟨rfl, rfl⟩
  go_wp2_with fail
  refine (p3.out _).mono ?_
  rintro e w2 ⟨rfl, rfl⟩
  go_wp2_with fail
  refine (p4.out _).mono ?_
  rintro e w3 ⟨rfl, hb3⟩
  go_wp2_with fail
  refine (p2.out _).mono ?_
  rintro e w4 ⟨rfl, rfl⟩
  go_wp2_with fail
  go_ret
  exact ⟨rfl, hb1.trans (hb3.mono hb1.size)⟩
end Go.Proofs.Ythdppaohagghbaa.Tsync
