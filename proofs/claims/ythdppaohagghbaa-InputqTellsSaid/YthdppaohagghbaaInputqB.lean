/-
  The walks of package inputq, the methods that write: Add, Use, Drop, New. Conditions as in the text before.
-/
import Derived.Test.YthdppaohagghbaaInputq
namespace Go.Proofs.Ythdppaohagghbaa.Inputq
open Go.RowKit

def addW (x : Q) (v : Int) : Int :=
  if RingInput.atE x.uf x.ul.length (x.kf + x.kl.length) = 0 ∧ RingInput.atV x.uf x.ul (x.kf + x.kl.length) ≠ v ∧ (x.wrong < 0 ∨ x.kf + x.kl.length < x.wrong) then x.kf + x.kl.length else x.wrong
def addQ (x : Q) (v : Int) : Q := { x with kf := RingInput.putF 256 x.kf x.kl, kl := RingInput.putL 256 x.kl v, last := v, wrong := addW x v }

theorem at_code (f : Int) (l : List Int) (n : Int) : RingInput.atE f l.length n = 0 ∨ RingInput.atE f l.length n = 90 ∨ RingInput.atE f l.length n = 91 := by
  unfold RingInput.atE
  split
  · exact .inr (.inl rfl)
  · split
    · exact .inr (.inr rfl)
    · exact .inl rfl

set_option maxRecDepth 100000 in
set_option maxHeartbeats 4000000 in
theorem add_any (w : World) (s : S) (x : Q) (v : Int) (h : QAt w s x) (ok : Ok x) :
    Calls Try.prog 17 #[.pointer (some ⟨s.q, 0, none⟩), .int .u16 v] w fun e w' => e = .returned (.int .i64 (x.kf + x.kl.length)) ∧ TurnedQ w s (addQ x v) w' := by
  obtain ⟨⟨c0, c1, c2, c3, c4⟩, f2, f4⟩ := h.cells
  have ok' := ok
  obtain ⟨o1, o2, o3, o4, o5, o6⟩ := ok
  have p := Lib.hid (RingInput.put_any w s.kr 256 x.kf v s.ks x.kl h.2.1 o1 (by omega) (by omega) (by omega))
  have key : ∀ (nn a ec : Int) (wr : Int), nn = x.kf + x.kl.length → a = RingInput.atV x.uf x.ul nn → ec = RingInput.atE x.uf x.ul.length nn → wr = x.wrong → Calls Try.prog 17 #[.pointer (some ⟨s.q, 0, none⟩), .int .u16 v] w fun e w' => e = .returned (.int .i64 (x.kf + x.kl.length)) ∧ TurnedQ w s (addQ x v) w' := by
    intro nn a ec wr hn ha hec hwr
    have hq := RingInput.at_any
    have HN := Lib.hid hn
    have HA := Lib.hid ha
    have HE := Lib.hid hec
    have HW := Lib.hid hwr
    have hnb : nn ≤ 9223372036854775807 := by omega
    have hnb0 : 0 ≤ nn := by omega
    clear hn ha hec hwr hq o1 o2 o3 o4 o5 o6
    have hadd : addW x v = if ec = 0 ∧ a ≠ v ∧ (wr < 0 ∨ nn < wr) then nn else wr := by rw [addW, HE.out, HA.out, HW.out, HN.out]
    have HADD := Lib.hid hadd
    clear hadd
    rw [← HN.out] at p
    rw [← HN.out]
    rw [← HW.out] at c4
    go_enter Try.func17, Try.ntmps17
    go_wp2_with fail
    refine p.out.mono ?_
    rintro e w1 ⟨rfl, ht⟩
    obtain ⟨sv, h1, T1, F1⟩ := h.known ht
    obtain ⟨⟨d0, d1, d2, d3, d4⟩, g2, g4⟩ := h1.cells
    have h2 := h1.setLast v
    dsimp only at d0 d1 d2 d3 d4 g2 g4
    rw [← HW.out] at d4
    have p2 := RingInput.at_any _ s.ur 256 x.uf nn s.us x.ul h2.2.2.1 ok'.2.1 hnb
    rw [← HA.out, ← HE.out] at p2
    have P2 := Lib.hid p2
    clear p2
    have T2 := T1.trans (touch_q w1 { s with ks := sv } 2 (.int .u16 v)) (fun k hk => F1 k hk)
    have hno : Hid (∀ n, addW x v = wr → TurnedQ w s (addQ x v) ((w1.setCell ⟨s.q, 2, none⟩ (.int .u16 v)).drewN n)) := fun n e => ⟨{ s with ks := sv }, rfl, by rw [addQ, e, HW.out]; exact h2, T2.drewN n, F1⟩
    have hyes : Hid (∀ n, addW x v = nn → TurnedQ w s (addQ x v) (((w1.setCell ⟨s.q, 2, none⟩ (.int .u16 v)).setCell ⟨s.q, 4, none⟩ (.int .i64 nn)).drewN n)) := fun n e =>
      ⟨{ s with ks := sv }, rfl, by rw [addQ, e]; exact h2.setWrong nn, (T2.trans (touch_q _ { s with ks := sv } 4 (.int .i64 nn)) F1).drewN n, F1⟩
    clear h1 h2 T1 T2 F1 ht h
    go_wp2_with (go_at_call 76; refine P2.out.mono ?_; rintro e w2 ⟨rfl, nq, rfl⟩)
    all_goals
      go_ret
      refine ⟨rfl, ?_⟩
      first
        | (refine hno.out _ ?_; rw [HADD.out]; refine if_neg ?_; rintro ⟨p1, p2, p3⟩; simp_all; omega)
        | (refine hno.out _ ?_; rw [HADD.out]; refine if_neg ?_; rintro ⟨p1, p2, p3⟩; simp_all; done)
        | (refine hyes.out _ ?_; rw [HADD.out]; refine if_pos ⟨?_, ?_, ?_⟩ <;> first | assumption | omega | simp_all)
        | trace_state
  exact key _ _ _ _ rfl rfl rfl rfl


def useQ (x : Q) (n : Int) : Q :=
  if n > x.uf + x.ul.length then x else if n < x.kf then x else
  if n = x.uf + x.ul.length then { x with uf := RingInput.putF 256 x.uf x.ul, ul := RingInput.putL 256 x.ul (thinkV x n) } else { x with ul := RingInput.setL x.uf x.ul n (thinkV x n) }
def useE (x : Q) (n : Int) : Int := if n > x.uf + x.ul.length then 210 else thinkE x n
def useV (x : Q) (n : Int) : Int := if useE x n = 0 then thinkV x n else 0
def useK (x : Q) (n : Int) : Bool := if useE x n = 0 then thinkK x n else false

theorem TurnedQ.used' {w w' : World} {s : S} {x x' : Q} {f : Int} {l : List Int} {n : Nat} (h : QAt w s x) (ht : RingInput.Turned (w.drewN n) s.ur s.us 256 f l w') (hx : x' = { x with uf := f, ul := l }) : TurnedQ w s x' w' := by
  subst hx
  obtain ⟨sv, h1, T1, F1⟩ := (h.drewN n).used ht
  exact ⟨{ s with us := sv }, rfl, h1, ⟨T1.os, T1.tape, T1.output, T1.size, T1.block⟩, F1⟩

set_option maxRecDepth 100000 in
set_option maxHeartbeats 4000000 in
theorem use_any (w : World) (s : S) (x : Q) (n : Int) (h : QAt w s x) (ok : Ok x) (hn : n ≤ 9223372036854775807) :
    Calls Try.prog 18 #[.pointer (some ⟨s.q, 0, none⟩), .int .i64 n] w fun e w' => e = .returned (.tuple #[.int .u16 (useV x n), .bool (useK x n), .int .i64 (useE x n)]) ∧ TurnedQ w s (useQ x n) w' := by
  obtain ⟨⟨c0, c1, c2, c3, c4⟩, f2, f4⟩ := h.cells
  have ok' := ok
  obtain ⟨o1, o2, o3, o4, o5, o6⟩ := ok
  have p := Lib.hid (fun k => RingInput.next_any (w.drewN k) s.ur 256 x.uf s.us x.ul (h.2.2.1.drewN k) o2 (by omega))
  have p0 := Lib.hid (RingInput.next_any w s.ur 256 x.uf s.us x.ul h.2.2.1 o2 (by omega))
  have t := fun k => think_any (w.drewN k) s x n (h.drewN k) ok' hn
  by_cases b0 : n > x.uf + x.ul.length
  · have e1 := Lib.hid (show useQ x n = x by rw [useQ, if_pos b0])
    have e2 := Lib.hid (show useE x n = 210 by rw [useE, if_pos b0])
    have e3 := Lib.hid (show useV x n = 0 by rw [useV, e2.out, if_neg (by omega)])
    have e4 := Lib.hid (show useK x n = false by rw [useK, e2.out, if_neg (by omega)])
    go_enter Try.func18, Try.ntmps18
    go_wp2_with fail
    refine p0.out.mono ?_
    rintro e w1 ⟨rfl, nq, rfl⟩
    go_wp2_with fail
    refine bodyPost_ret (v := .tuple #[.int .u16 0, .bool false, .int .i64 210]) (by simp [results, Try.results18, go_sem]) rfl ⟨?_, ?_⟩
    · rw [e2.out, e3.out, e4.out]
    · rw [e1.out]; exact .same h _
  · have hE : useE x n = thinkE x n := by rw [useE, if_neg b0]
    by_cases b1 : n < x.kf
    · have te : thinkE x n = 90 := by rw [thinkE, if_pos b1]
      rw [te] at t
      have t := Lib.hid t
      have e1 := Lib.hid (show useQ x n = x by rw [useQ, if_neg b0, if_pos b1])
      have e2 := Lib.hid (hE.trans te)
      have e3 := Lib.hid (show useV x n = 0 by rw [useV, e2.out, if_neg (by omega)])
      have e4 := Lib.hid (show useK x n = false by rw [useK, e2.out, if_neg (by omega)])
      clear hE te
      go_enter Try.func18, Try.ntmps18
      go_wp2_with fail
      refine p0.out.mono ?_
      rintro e w1 ⟨rfl, nq, rfl⟩
      go_wp2_with fail
      refine (t.out _).mono ?_
      rintro e w1 ⟨rfl, nq2, rfl⟩
      go_wp2_with fail
      refine bodyPost_ret (v := .tuple #[.int .u16 0, .bool false, .int .i64 90]) (by simp [results, Try.results18, go_sem]) rfl ⟨?_, ?_⟩
      · rw [e2.out, e3.out, e4.out]
      · rw [e1.out]; exact .same h _
    · have te : thinkE x n = 0 := by rw [thinkE, if_neg b1]
      rw [te] at t
      have t := Lib.hid t
      have e2 := Lib.hid (hE.trans te)
      have e3 := Lib.hid (show useV x n = thinkV x n by rw [useV, e2.out, if_pos rfl])
      have e4 := Lib.hid (show useK x n = thinkK x n by rw [useK, e2.out, if_pos rfl])
      clear hE te
      by_cases b2 : n = x.uf + x.ul.length
      · have hb2 : (n == x.uf + x.ul.length) = true := by simpa using b2
        have e1 := Lib.hid (show useQ x n = { x with uf := RingInput.putF 256 x.uf x.ul, ul := RingInput.putL 256 x.ul (thinkV x n) } by rw [useQ, if_neg b0, if_neg b1, if_pos b2])
        have pp := Lib.hid (fun k => RingInput.put_any (w.drewN k) s.ur 256 x.uf (thinkV x n) s.us x.ul (h.2.2.1.drewN k) o2 (by omega) (by omega) (by omega))
        clear b2
        go_enter Try.func18, Try.ntmps18
        go_wp2_with fail
        refine p0.out.mono ?_
        rintro e w1 ⟨rfl, nq, rfl⟩
        go_wp2_with fail
        refine (t.out _).mono ?_
        rintro e w1 ⟨rfl, nq2, rfl⟩
        go_wp2_with fail
        refine (p.out _).mono ?_
        rintro e w1 ⟨rfl, nq3, rfl⟩
        go_wp2_with fail
        refine (pp.out _).mono ?_
        rintro e w1 ⟨rfl, ht⟩
        go_wp2_with fail
        refine bodyPost_ret (v := .tuple #[.int .u16 (thinkV x n), .bool (thinkK x n), .int .i64 0]) (by simp [results, Try.results18, go_sem]) rfl ⟨?_, ?_⟩
        · rw [e2.out, e3.out, e4.out]
        · exact .used' h ht e1.out
      · have hb2 : (n == x.uf + x.ul.length) = false := by simpa using b2
        have e1 := Lib.hid (show useQ x n = { x with ul := RingInput.setL x.uf x.ul n (thinkV x n) } by rw [useQ, if_neg b0, if_neg b1, if_neg b2])
        have pp := Lib.hid (fun k => RingInput.set_any (w.drewN k) s.ur 256 x.uf n (thinkV x n) s.us x.ul (h.2.2.1.drewN k) o2 hn)
        clear b2
        go_enter Try.func18, Try.ntmps18
        go_wp2_with fail
        refine p0.out.mono ?_
        rintro e w1 ⟨rfl, nq, rfl⟩
        go_wp2_with fail
        refine (t.out _).mono ?_
        rintro e w1 ⟨rfl, nq2, rfl⟩
        go_wp2_with fail
        refine (p.out _).mono ?_
        rintro e w1 ⟨rfl, nq3, rfl⟩
        go_wp2_with fail
        refine (pp.out _).mono ?_
        rintro e w1 ⟨rfl, ht⟩
        go_wp2_with fail
        refine bodyPost_ret (v := .tuple #[.int .u16 (thinkV x n), .bool (thinkK x n), .int .i64 0]) (by simp [results, Try.results18, go_sem]) rfl ⟨?_, ?_⟩
        · rw [e2.out, e3.out, e4.out]
        · exact .used' h ht e1.out


def dropM (x : Q) (n : Int) : Int := if x.uf + x.ul.length < n then x.uf + x.ul.length else n
def dropQ (x : Q) (n : Int) : Q :=
  { x with kf := RingInput.dropF x.kf x.kl.length (dropM x n), kl := RingInput.dropL x.kf x.kl (dropM x n), uf := RingInput.dropF x.uf x.ul.length n, ul := RingInput.dropL x.uf x.ul n }

set_option maxRecDepth 100000 in
set_option maxHeartbeats 4000000 in
theorem drop_any (w : World) (s : S) (x : Q) (n : Int) (h : QAt w s x) (ok : Ok x) (hn : n ≤ 9223372036854775807) :
    Calls Try.prog 135 #[.pointer (some ⟨s.q, 0, none⟩), .int .i64 n] w fun e w' => e = .returned (.tuple #[]) ∧ TurnedQ w s (dropQ x n) w' := by
  obtain ⟨⟨c0, c1, c2, c3, c4⟩, f2, f4⟩ := h.cells
  have ok' := ok
  obtain ⟨o1, o2, o3, o4, o5, o6⟩ := ok
  obtain ⟨m, hm⟩ : ∃ m, m = dropM x n := ⟨_, rfl⟩
  have hmin : (if x.uf + (x.ul.length : Int) < n then x.uf + (x.ul.length : Int) else n) = m := hm.symm
  have hmb : m ≤ 9223372036854775807 := by rw [hm, dropM]; split <;> omega
  have HM := Lib.hid hm
  clear hm
  have p := Lib.hid (fun W (hW : W.heap = w.heap) => RingInput.next_any W s.ur 256 x.uf s.us x.ul (h.2.2.1.heap_eq hW) o2 (by omega))
  have pd := Lib.hid (fun W (hW : W.heap = w.heap) => RingInput.drop_any W s.kr 256 x.kf m s.ks x.kl (h.2.1.heap_eq hW) o1 (by omega) (by omega) hmb)
  go_enter Try.func135, Try.ntmps135
  go_wp2_with fail
  go_region_held3 (fun w' => w'.cell? ⟨s.q, 1, none⟩ = some (.pointer (some ⟨s.kr, 0, none⟩)) ∧ w'.cell? ⟨s.q, 3, none⟩ = some (.pointer (some ⟨s.ur, 0, none⟩))) (first | go_keep | exact ⟨d1, d3⟩)
    (first
      | (go_at_call 77; refine (p.out _ (by rfl)).mono ?_; rintro e w' ⟨rfl, nq, rfl⟩)
      | (go_at_call 165; refine (pd.out _ (by rfl)).mono ?_; rintro e w1 ⟨rfl, ht⟩; obtain ⟨sv, h1, T1, F1⟩ := QAt.known (h.heap_eq (by rfl)) ht; obtain ⟨⟨d0, d1, d2, d3, d4⟩, g2, g4⟩ := h1.cells; dsimp only at d0 d1 d2 d3 d4 g2 g4))
  have pu := Lib.hid (fun W (hW : W.heap = w1.heap) => RingInput.drop_any W s.ur 256 x.uf n s.us x.ul (h1.2.2.1.heap_eq hW) o2 (by omega) (by omega) hn)
  go_wp2_with fail
  refine (pu.out _ (by rfl)).mono ?_
  rintro e w2 ⟨rfl, ht2⟩
  obtain ⟨sv2, h2, T2, F2⟩ := QAt.used (h1.heap_eq (by rfl)) ht2
  go_wp2_with fail
  refine bodyPost_end (results_none rfl _ _ _) rfl ⟨rfl, ?_⟩
  refine ⟨{ s with ks := sv, us := sv2 }, rfl, by rw [dropQ, ← HM.out]; exact h2, ?_, fun k hk => ?_⟩
  · exact Touch.trans (Touch.trans (w1 := w.drewN (1 + nq)) (S := fpQ s) (S' := fpQ s) ⟨rfl, rfl, rfl, Nat.le_refl _, fun _ _ _ => rfl⟩ T1 (fun _ hk => .inl hk)) T2 F1
  · rcases F2 k hk with a | a
    · exact F1 k a
    · exact .inr (Nat.le_trans T1.size a)

def newQ (d : Int) (l : List Int) : Q := { delay := d, kf := 0, kl := l, last := 0, uf := 0, ul := [], wrong := -1 }

set_option maxRecDepth 100000 in
set_option maxHeartbeats 1000000 in
theorem new_no (d : Int) (w : World) (h : d < 0 ∨ 8 < d) :
    Calls Try.prog 16 #[.int .i64 d] w fun e w' => e = .returned (.tuple #[.pointer none, .int .i64 1]) ∧ w = w' := by
  rcases h with h | h
  · go_enter Try.func16, Try.ntmps16
    go_wp2_with fail
    go_ret2
    exact ⟨rfl, rfl⟩
  · have h' : ¬ d < 0 := by omega
    go_enter Try.func16, Try.ntmps16
    go_wp2_with fail
    go_ret2
    exact ⟨rfl, rfl⟩

/-- A queue that the call itself has made. -/
def Made (w : World) (q : Nat) (x : Q) (w' : World) : Prop := ∃ s, s.q = q ∧ QAt w' s x ∧ Below w.heap.size w w' ∧ ∀ k, fpQ s k → w.heap.size ≤ k
theorem Made.turned {w w1 w2 : World} {q : Nat} {x y : Q} (h : Made w q x w1) (k : ∀ s, s.q = q → QAt w1 s x → TurnedQ w1 s y w2) : Made w q y w2 := by
  obtain ⟨s, e, hq, hb, hF⟩ := h
  obtain ⟨s', e', hq', hT, hF'⟩ := k s e hq
  obtain ⟨b, f, _⟩ := hT.base hF' (B := w.heap.size) hb.size hF
  exact ⟨s', e'.trans e, hq', hb.trans b, f⟩

def NewInv (w : World) (d k : Nat) (wr : World) : Prop :=
  ∃ ks, QAt wr ⟨w.heap.size + 1 + 1, w.heap.size, w.heap.size + 1, ks, .slice none 0 0⟩ (newQ d (List.replicate k 0)) ∧ Below w.heap.size w wr ∧ ∀ j, fpQ ⟨w.heap.size + 1 + 1, w.heap.size, w.heap.size + 1, ks, .slice none 0 0⟩ j → w.heap.size ≤ j

set_option maxRecDepth 100000 in
set_option maxHeartbeats 2000000 in
theorem new_ok (d : Nat) (w : World) (h : d ≤ 8) :
    Calls Try.prog 16 #[.int .i64 d] w fun e w' => ∃ q, e = .returned (.tuple #[.pointer (some ⟨q, 0, none⟩), .int .i64 0]) ∧ Made w q (newQ d (List.replicate d 0)) w' := by
  have h0 : ¬ (d : Int) < 0 := by omega
  have h1 : ¬ 8 < (d : Int) := by omega
  go_enter Try.func16, Try.ntmps16
  go_wp2_with fail
  refine (RingInput.new_ok 256 _ (by omega) (by omega)).mono ?_
  rintro e w1 ⟨rfl, rfl⟩
  go_wp2_with fail
  refine (RingInput.new_ok 256 _ (by omega) (by omega)).mono ?_
  rintro e w1 ⟨rfl, rfl⟩
  go_wp2_with fail
  go_loopw [29] (fun i wr => ∃ k : Nat, k ≤ d ∧ i = .int .i64 k ∧ NewInv w d k wr) (fun i _ => d - (intOf i).toNat)
  case atStart =>
    refine ⟨0, Nat.zero_le _, rfl, .slice none 0 0, ⟨?_, ?_, ?_, ?_⟩, ?_, ?_⟩
    · have := Blk.new ((w.alloc (.cells #[.int .i64 256, .int .i64 0, .slice none 0 0] 190)).alloc (.cells #[.int .i64 256, .int .i64 0, .slice none 0 0] 190)) 121 #[.int .i64 d, .pointer (some ⟨w.heap.size, 0, none⟩), .int .u16 0, .pointer (some ⟨w.heap.size + 1, 0, none⟩), .int .i64 (-1)]
      simpa [newQ] using this
    · exact ((RingInput.at_new w 256).alloc _).alloc _
    · have := (RingInput.at_new (w.alloc (.cells #[.int .i64 256, .int .i64 0, .slice none 0 0] 190)) 256).alloc (.cells #[.int .i64 d, .pointer (some ⟨w.heap.size, 0, none⟩), .int .u16 0, .pointer (some ⟨w.heap.size + 1, 0, none⟩), .int .i64 (-1)] 121)
      simpa [newQ] using this
    · rintro k (a | a) (b | b)
      · dsimp only at a b; omega
      · simp [Value.ownBlock] at b
      · simp [Value.ownBlock] at a
      · simp [Value.ownBlock] at a
    · exact (((Below.refl _ _).alloc (Nat.le_refl _) _).alloc (by simp) _).alloc (by simp; omega) _
    · rintro k (a | a | a)
      · dsimp only at a; omega
      · rcases a with a | a
        · dsimp only at a; omega
        · simp [Value.ownBlock] at a
      · rcases a with a | a
        · dsimp only at a; omega
        · simp [Value.ownBlock] at a
  case round =>
    obtain ⟨k, hk, rfl, ks, hq, hb, hF⟩ := hrel
    obtain ⟨⟨c0, c1, c2, c3, c4⟩, f2, f4⟩ := hq.cells
    dsimp only [newQ] at c0 c1 c2 c3 c4
    by_cases hlt : k < d
    · have p := Lib.hid (RingInput.put_any wr w.heap.size 256 0 0 ks _ hq.2.1 (by omega) (by simp [newQ]; omega) (by simp [newQ]; omega) (by omega))
      go_wp2_with fail
      refine p.out.mono ?_
      rintro e w2 ⟨rfl, ht⟩
      have hrep : (newQ d (List.replicate (k + 1) 0)) = { (newQ d (List.replicate k 0)) with kf := RingInput.putF 256 0 (List.replicate k 0), kl := RingInput.putL 256 (List.replicate k 0) 0 } := by
        have e1 : ¬ (((List.replicate k (0 : Int)).length : Int) = 256) := by simp; omega
        rw [RingInput.putF, RingInput.putL, if_neg e1, if_neg e1, newQ, newQ, List.replicate_succ']
      have hrep := Lib.hid hrep
      obtain ⟨sv, h2, T2, F2⟩ := hq.known ht
      obtain ⟨b2, f2', _⟩ := T2.base F2 (B := w.heap.size) hb.size hF
      go_wp2_with fail
      go_roundw
      case rel => exact ⟨k + 1, by omega, by go_num, sv, by rw [hrep.out]; exact h2, hb.trans b2, f2'⟩
      case measure => simp [intOf]; omega
    · obtain rfl : k = d := by omega
      go_wp2_with fail
      go_ret2
      exact ⟨_, rfl, _, rfl, hq, hb, hF⟩

end Go.Proofs.Ythdppaohagghbaa.Inputq
