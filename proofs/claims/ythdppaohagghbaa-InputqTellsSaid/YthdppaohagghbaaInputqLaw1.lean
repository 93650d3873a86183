/-
  The walk of backstaylaw21.awake. No condition.
-/
import Derived.Test.YthdppaohagghbaaInputqPure
namespace Go.Proofs.Ythdppaohagghbaa.Inputq
open Go.RowKit

theorem use_as {w : World} {s : S} {x y : Q} {n v e : Int} {k : Bool} (h : QAt w s x) (ok : Ok x) (hn : n ≤ 9223372036854775807) (hy : useQ x n = y) (hv : useV x n = v) (hk : useK x n = k) (he : useE x n = e) :
    Calls Try.prog 18 #[.pointer (some ⟨s.q, 0, none⟩), .int .i64 n] w fun e' w' => e' = .returned (.tuple #[.int .u16 v, .bool k, .int .i64 e]) ∧ TurnedQ w s y w' := by
  subst hy hv hk he
  exact use_any w s x n h ok hn
theorem add_as {w : World} {s : S} {x y : Q} {v n : Int} (h : QAt w s x) (ok : Ok x) (hy : addQ x v = y) (hn : x.kf + x.kl.length = n) :
    Calls Try.prog 17 #[.pointer (some ⟨s.q, 0, none⟩), .int .u16 v] w fun e w' => e = .returned (.int .i64 n) ∧ TurnedQ w s y w' := by
  subst hy hn
  exact add_any w s x v h ok

set_option maxRecDepth 100000 in
set_option maxHeartbeats 4000000 in
theorem awake_any (w : World) : Calls Try.prog 15 #[] w fun e w' => e = .returned (.bool true) ∧ Below w.heap.size w w' := by
  have hnew := Lib.hid (new_ok 1 w (by omega))
  go_enter Try.func15, Try.ntmps15
  go_wp2_with fail
  refine hnew.out.mono ?_
  rintro e w1 ⟨q, rfl, s1, rfl, h1, b1, F1⟩
  replace h1 : QAt w1 s1 ⟨1, 0, [0], 0, 0, [], -1⟩ := h1
  have z1 := b1.size
  have u1 := Lib.hid (use_as (y := ⟨1, 0, [0], 0, 0, [0], -1⟩) (v := 0) (k := true) (e := 0) (n := 0) h1 (by simp [Ok]) (by omega) rfl rfl rfl rfl)
  go_wp2_with fail
  refine u1.out.mono ?_
  rintro e w2 ⟨rfl, s2, e2, h2, T2, F2⟩
  obtain ⟨b2, G2, z2⟩ := T2.base F2 (B := w.heap.size) z1 F1
  have u2 := use_as (y := ⟨1, 0, [0], 0, 0, [0, 0], -1⟩) (v := 0) (k := false) (e := 0) (n := 1) h2 (by simp [Ok]) (by omega) rfl rfl rfl rfl
  rw [e2] at u2
  have u2 := Lib.hid u2
  have E2 := Lib.hid e2
  clear e2
  go_wp2_with fail
  refine u2.out.mono ?_
  rintro e w3 ⟨rfl, s3, e3, h3, T3, F3⟩
  obtain ⟨b3, G3, z3⟩ := T3.base F3 z2 G2
  have u3 := add_as (y := ⟨1, 0, [0, 5], 5, 0, [0, 0], 1⟩) (n := 1) (v := 5) h3 (by simp [Ok]) rfl rfl
  rw [e3, E2.out] at u3
  have u3 := Lib.hid u3
  have E3 := Lib.hid e3
  clear e3
  go_wp2_with fail
  refine u3.out.mono ?_
  rintro e w4 ⟨rfl, s4, e4, h4, T4, F4⟩
  obtain ⟨b4, G4, z4⟩ := T4.base F4 z3 G3
  have u4 := wrong_any w4 s4 _ h4
  rw [e4, E3.out, E2.out] at u4
  have u4 := Lib.hid u4
  clear e4
  go_wp2_with fail
  refine u4.out.mono ?_
  rintro e w5 ⟨rfl, rfl⟩
  go_wp2_with fail
  go_ret
  exact ⟨rfl, ((b1.trans b2).trans b3).trans b4⟩

def WInv1 (B : Nat) (w0 : World) (q : Nat) (d : Nat) (i : Nat) (U : List Int) (uv : Value) (w : World) : Prop :=
  ∃ x, Pair B w0 q x uv U w ∧ x.kf = 0 ∧ x.uf = 0 ∧ x.kl.length = d + i ∧ x.ul = U ∧ U.length = i ∧ x.wrong = -1
def WInv2 (B : Nat) (w0 : World) (q : Nat) (m : Nat) (i : Nat) (U : List Int) (uv : Value) (w : World) : Prop :=
  ∃ x, Pair B w0 q x uv U w ∧ x.kf = 0 ∧ x.uf = 0 ∧ x.kl.length = m ∧ x.ul = U ∧ U.length = i ∧ x.wrong = -1
def WInv3 (B : Nat) (w0 : World) (q : Nat) (m : Nat) (i : Nat) (U : List Int) (uv : Value) (want : Int) (w : World) : Prop :=
  ∃ x, Pair B w0 q x uv U w ∧ x.kf = 0 ∧ x.uf = 0 ∧ x.kl.length = m + i ∧ x.ul = U ∧ x.wrong = want ∧ want ≤ m + i

set_option maxRecDepth 100000 in
set_option maxHeartbeats 8000000 in
theorem wrong_new (dd : Int) (t c tc cc : Nat) (ta ca : Option Addr) (w : World) (hd : dd < 0 ∨ 8 < dd) :
    Calls Try.prog 3 #[.int .i64 dd, .slice ta t tc, .slice ca c cc] w fun e w' => e = .returned (.bool true) ∧ Below w.heap.size w w' := by
  have hnew := Lib.hid (fun W => new_no dd W hd)
  go_enter Try.func3, Try.ntmps3
  go_wp2_with fail
  refine (awake_any w).mono ?_
  rintro e w0 ⟨rfl, b0⟩
  go_wp2_with fail
  refine (hnew.out _).mono ?_
  rintro e w1 ⟨rfl, rfl⟩
  go_wp2_with fail
  go_ret
  exact ⟨rfl, b0⟩

set_option maxRecDepth 100000 in
set_option maxHeartbeats 2000000 in
theorem wrong_long (d t c tc cc : Nat) (ta ca : Option Addr) (w : World) (hd : d ≤ 8) (hl : 100 < t ∨ 100 < c) :
    Calls Try.prog 3 #[.int .i64 d, .slice ta t tc, .slice ca c cc] w fun e w' => e = .returned (.bool true) ∧ Below w.heap.size w w' := by
  have hnew := Lib.hid (fun W => new_ok d W hd)
  by_cases ht : 100 < t
  · have ht2 : (100 : Int) < (t : Int) := by omega
    go_enter Try.func3, Try.ntmps3
    go_wp2_with fail
    refine (awake_any w).mono ?_
    rintro e w0 ⟨rfl, b0⟩
    go_wp2_with fail
    refine (hnew.out _).mono ?_
    rintro e w1 ⟨q, rfl, s1, rfl, h1, b1, F1⟩
    go_wp2_with fail
    go_ret
    exact ⟨rfl, b0.trans (b1.mono b0.size)⟩
  · have ht2 : ¬ (100 : Int) < (t : Int) := by omega
    have hc2 : (100 : Int) < (c : Int) := by omega
    go_enter Try.func3, Try.ntmps3
    go_wp2_with fail
    refine (awake_any w).mono ?_
    rintro e w0 ⟨rfl, b0⟩
    go_wp2_with fail
    refine (hnew.out _).mono ?_
    rintro e w1 ⟨q, rfl, s1, rfl, h1, b1, F1⟩
    go_wp2_with fail
    go_ret
    exact ⟨rfl, b0.trans (b1.mono b0.size)⟩

set_option maxRecDepth 100000 in
set_option maxHeartbeats 8000000 in
theorem wrong_yes (d t c tc cc : Nat) (ta ca : Option Addr) (T C : List Int) (w : World) (hd : d ≤ 8) (ht : t ≤ 100) (hc : c ≤ 100) (rT : Row .u16 w ta t T) (rC : Row .u16 w ca c C) :
    Calls Try.prog 3 #[.int .i64 d, .slice ta t tc, .slice ca c cc] w fun e w' => e = .returned (.bool true) ∧ Below w.heap.size w w' := by
  have hnew := Lib.hid (fun W => new_ok d W hd)
  obtain ⟨i0, hi0, hz0, hz1, hz2⟩ := info_parts RingInput.info
  go_enter Try.func3, Try.ntmps3
  go_wp2_with fail
  refine (awake_any w).mono ?_
  rintro e w0 ⟨rfl, b0⟩
  go_wp2_with fail
  refine (hnew.out _).mono ?_
  rintro e w1 ⟨q, rfl, s1, rfl, h1, b1, F1⟩
  have z0 := b0.size
  have B1 : Below w.heap.size w w1 := b0.trans (b1.mono z0)
  have rT1 := Lib.hid rT
  have rC1 := Lib.hid rC
  clear rT rC
  have ht2 : ¬ (100 < (t : Int)) := by omega
  have hc2 : ¬ (100 < (c : Int)) := by omega
  go_wp2_with fail
  go_loopw [9, 10, 11] (fun u at_ i wr => ∃ k : Nat, k ≤ t ∧ at_ = .int .i64 k ∧ i = .int .i64 k ∧ ∃ U, WInv1 w.heap.size w s1.q d k U u wr) (fun _ _ i _ => t - (intOf i).toNat)
  case atStart => exact ⟨0, Nat.zero_le _, rfl, rfl, [], _, ⟨s1, rfl, h1, B1, fun k hk => Nat.le_trans z0 (F1 k hk), On.nil _ _ _, by simp [Value.ownBlock], by simp [Value.ownBlock]⟩, rfl, rfl, by simp [newQ], rfl, rfl, rfl⟩
  case round =>
    obtain ⟨k, hk, rfl, rfl, U, x, hP, hkf, huf, hkl, hul, hU, hwr⟩ := hrel
    have hb := hP.below
    obtain ⟨au, cu, rfl, hcu, hcm⟩ := hP.on.slice
    have hz := hb.size
    by_cases hlt : k < t
    · obtain ⟨b, off, rfl, hblt, hcell⟩ := (rT1.out.below hb).2 (by omega)
      have hck := hcell k hlt
      clear hcell
      have p1 := pair_add hP (Nat.le_refl _) ⟨by omega, by omega, by omega, by rw [hul]; omega, by omega, by rw [hul]; omega⟩ (nth T k)
      have hy1 : (addQ x (nth T k)).kf = 0 := by rw [addQ_kf (by omega), hkf]
      have hy2 : (addQ x (nth T k)).kl.length = d + (k + 1) := by rw [addQ_kl (by omega)]; simp; omega
      have hy3 : (addQ x (nth T k)).wrong = -1 := by show addW x _ = _; rw [addW_late hkf huf (by rw [hul]; omega), hwr]
      have hy4 : (addQ x (nth T k)).ul = U := hul
      have hy5 : (addQ x (nth T k)).uf = 0 := huf
      clear hkf huf hkl hul hwr
      generalize addQ x (nth T k) = y at p1 hy1 hy2 hy3 hy4 hy5
      have p1 := Lib.hid p1
      have Y1 := Lib.hid hy1
      have Y2 := Lib.hid hy2
      have Y3 := Lib.hid hy3
      have Y4 := Lib.hid hy4
      have Y5 := Lib.hid hy5
      have HU := Lib.hid hU
      clear hy1 hy2 hy3 hy4 hy5 hU
      go_wp2_with fail
      refine p1.out.mono ?_
      rintro e w2 ⟨rfl, hP2⟩
      have hn0 : (k : Int) = y.uf + y.ul.length := by rw [Y5.out, Y4.out, HU.out]; omega
      have p2 := pair_use hP2 (Nat.le_refl _) ⟨by rw [Y1.out]; omega, by rw [Y5.out]; omega, by rw [Y1.out, Y2.out]; omega, by rw [Y5.out, Y4.out, HU.out]; omega, by rw [Y2.out]; omega, by rw [Y4.out, HU.out]; omega⟩ (k : Int) (by omega)
      rw [useE_at Y1.out hn0 (by omega), useQ_at Y1.out hn0 (by omega) (by rw [Y4.out, HU.out]; omega)] at p2
      have p2 := Lib.hid p2
      clear hn0
      go_wp2_with fail
      refine p2.out.mono ?_
      rintro e w3 ⟨rfl, hP3⟩
      obtain ⟨v, hv⟩ : ∃ v, v = useV y k := ⟨_, rfl⟩
      rw [← hv] at hP3 ⊢
      have HV := Lib.hid hv
      clear hv
      go_wp2_with (at_builtin; refine wpList_append_on _ rfl (.tmp 66) (.tmp 68) _ rfl 30 i0 _ 1 2 Try.underlying22 hi0 hz0 hz1 hz2 rfl (by omega) (.slice au U.length cu) _ _ rfl (hP3.on.alloc (.cells #[.int .u16 v] 30)) _ 1 1 [.int .u16 v] rfl rfl (.inr ⟨_, rfl, cell_one_new _ _ _⟩) (by simp [Value.oneCell']) (by have := HU.out; simp only [maxLen]; omega) (by have := HU.out; omega) ?_; intro v' w4 hown4 hg4 hat4)
      go_roundw
      case rel =>
        refine ⟨k + 1, by omega, by go_num, by go_num, U ++ [v], _, hP3.grown (by have := hP3.below.size; omega) hg4 (by simpa using hown4) hat4, Y1.out, Y5.out, Y2.out, by rw [Y4.out], by simp [HU.out], Y3.out⟩
      case measure => simp [intOf]; omega
    · obtain rfl : k = t := by omega
      have HU := Lib.hid hU
      have HKL := Lib.hid hkl
      have HUL := Lib.hid hul
      have HKF := Lib.hid hkf
      have HUF := Lib.hid huf
      have HWR := Lib.hid hwr
      clear hU hkl hul hkf huf hwr
      obtain ⟨wo, rfl⟩ : ∃ wo : World, wo = wr := ⟨_, rfl⟩
      go_wp2_with fail
      go_loopw [9, 10, 15] (fun u at_ i wr => ∃ j : Nat, j ≤ c ∧ at_ = .int .i64 ((k + j : Nat) : Int) ∧ i = .int .i64 j ∧ ∃ U, WInv2 w.heap.size w s1.q (d + k) (k + j) U u wr) (fun _ _ i _ => c - (intOf i).toNat)
      case atStart => exact ⟨0, Nat.zero_le _, rfl, rfl, U, x, hP, HKF.out, HUF.out, HKL.out, HUL.out, HU.out, HWR.out⟩
      case round =>
        clear HU HKL HUL HKF HUF HWR hP hz hb
        obtain ⟨j, hj, rfl, rfl, U, x, hP, hkf, huf, hkl, hul, hU, hwr⟩ := hrel
        have hb := hP.below
        obtain ⟨au, cu, rfl, hcu, hcm⟩ := hP.on.slice
        have hz := hb.size
        by_cases hlt : j < c
        · have hn0 : ((k + j : Nat) : Int) = x.uf + x.ul.length := by rw [huf, hul, hU]; omega
          have p2 := pair_use hP (Nat.le_refl _) ⟨by omega, by omega, by omega, by rw [hul]; omega, by omega, by rw [hul]; omega⟩ ((k + j : Nat) : Int) (by omega)
          rw [useE_at hkf hn0 (by omega), useQ_at hkf hn0 (by omega) (by rw [hul, hU]; omega)] at p2
          have p2 := Lib.hid p2
          have HU := Lib.hid hU
          have HKL := Lib.hid hkl
          have HUL := Lib.hid hul
          have HKF := Lib.hid hkf
          have HUF := Lib.hid huf
          have HWR := Lib.hid hwr
          clear hU hkl hul hkf huf hwr hn0
          have hat : ((k + j : Nat) : Int) < 200 := by omega
          go_wp2_with fail
          refine p2.out.mono ?_
          rintro e w3 ⟨rfl, hP3⟩
          obtain ⟨v, hv⟩ : ∃ v, v = useV x ((k + j : Nat) : Int) := ⟨_, rfl⟩
          rw [← hv] at hP3 ⊢
          have HV := Lib.hid hv
          clear hv
          go_wp2_with (at_builtin; refine wpList_append_on _ rfl (.tmp 91) (.tmp 93) _ rfl 30 i0 _ 1 2 Try.underlying22 hi0 hz0 hz1 hz2 rfl (by omega) (.slice au U.length cu) _ _ rfl (hP3.on.alloc (.cells #[.int .u16 v] 30)) _ 1 1 [.int .u16 v] rfl rfl (.inr ⟨_, rfl, cell_one_new _ _ _⟩) (by simp [Value.oneCell']) (by have := HU.out; simp only [maxLen]; omega) (by have := HU.out; omega) ?_; intro v' w4 hown4 hg4 hat4)
          go_roundw
          case rel =>
            refine ⟨j + 1, by omega, by go_num, by go_num, U ++ [v], _, hP3.grown (by have := hP3.below.size; omega) hg4 (by simpa using hown4) hat4, HKF.out, HUF.out, HKL.out, by rw [HUL.out], by simp [HU.out]; omega, HWR.out⟩
          case measure => simp [intOf]; omega
        · obtain rfl : j = c := by omega
          have p3 := pair_wrong hP
          rw [hwr] at p3
          have p3 := Lib.hid p3
          have HU := Lib.hid hU
          have HKL := Lib.hid hkl
          have HUL := Lib.hid hul
          have HKF := Lib.hid hkf
          have HUF := Lib.hid huf
          have HWR := Lib.hid hwr
          clear hU hkl hul hkf huf hwr
          go_wp2_with fail
          refine p3.out.mono ?_
          rintro e w3 ⟨rfl, rfl⟩
          obtain ⟨wo2, rfl⟩ : ∃ wo : World, wo = wr := ⟨_, rfl⟩
          go_wp2_with fail
          go_loopw [19, 20] (fun want i wr => ∃ n : Nat, n ≤ j ∧ i = .int .i64 n ∧ ∃ ww, want = .int .i64 ww ∧ WInv3 w.heap.size w s1.q (d + k) n U (.slice au U.length cu) ww wr) (fun _ i _ => j - (intOf i).toNat)
          case atStart => exact ⟨0, Nat.zero_le _, rfl, -1, rfl, x, hP, HKF.out, HUF.out, HKL.out, HUL.out, HWR.out, by omega⟩
          case round =>
            clear HKL HUL HKF HUF HWR hP hz hb p3
            obtain ⟨n, hn, rfl, ww, rfl, x, hP, hkf, huf, hkl, hul, hwr, hwle⟩ := hrel
            have hb := hP.below
            have hz := hb.size
            by_cases hlt : n < j
            · obtain ⟨b, off, rfl, hblt, hcell⟩ := (rC1.out.below hb).2 (by omega)
              have hck := hcell n hlt
              clear hcell
              have hU := HU.out
              have p1 := pair_add hP (Nat.le_refl _) ⟨by omega, by omega, by omega, by rw [hul]; omega, by omega, by rw [hul]; omega⟩ (nth C n)
              have e1 : x.kf + (x.kl.length : Int) = ((d + k + n : Nat) : Int) := by rw [hkf, hkl]; omega
              rw [e1] at p1
              have p1 := Lib.hid p1
              obtain ⟨m, hm⟩ : ∃ m : Nat, d + k + n = m := ⟨_, rfl⟩
              rw [hm] at p1 hkl
              replace hwle : ww ≤ (m : Int) := by omega
              have hW : addW x (nth C n) = if m < U.length ∧ nth U m ≠ nth C n ∧ ww < 0 then (m : Int) else ww := by rw [addW_at hkf huf (by rw [hwr, hkl]; omega), hkl, hul, hwr]
              have hmb : m ≤ 208 := by omega
              have hfin : ∀ (y : Int) (wr' : World) (q2 : Nat), addW x (nth C n) = y → y ≤ (m : Int) → Pair w.heap.size w s1.q (addQ x (nth C n)) (.slice au U.length cu) U wr' → WInv3 w.heap.size w s1.q (d + k) (n + 1) U (.slice au U.length cu) y (wr'.drewN q2) := fun y wr' q2 e1 e2 h =>
                ⟨_, h.drewN q2, by rw [addQ_kf (by omega), hkf], huf, by rw [addQ_kl (by omega)]; simp; omega, hul, e1, by omega⟩
              have HF := Lib.hid hfin
              have HW := Lib.hid hW
              have HM := Lib.hid hm
              clear hfin hW hkf huf hkl hul hwr hm e1 hU
              have hmi : (0 : Int) ≤ (m : Int) := by omega
              have HUL2 := HU.out
              by_cases hmu : m < U.length
              · have d1 : decide ((m : Int) < (U.length : Int)) = true := by simp; omega
                have d1' : (m : Int) < (U.length : Int) := by omega
                have hmc : (m : Int) ≤ 9223372036854775807 := by omega
                have hni : (0 : Int) ≤ (n : Int) := by omega
                have hnc : (n : Int) < (j : Int) := by omega
                clear HUL2
                go_wp2_with fail
                refine p1.out.mono ?_
                rintro e w3 ⟨rfl, hP3⟩
                have hck3 : w3.cell? ⟨b, off + n, none⟩ = some (.int .u16 (nth C n)) := by
                  obtain ⟨b', off', e', _, hcell'⟩ := (rC1.out.below hP3.below).2 (by omega)
                  cases e'
                  exact hcell' n hlt
                obtain ⟨g, rfl, hcu3⟩ : ∃ g, au = some ⟨g, 0, none⟩ ∧ w3.cell? ⟨g, m, none⟩ = some (.int .u16 (nth U m)) := by
                  rcases hP3.on.form with ⟨hv, h0, _⟩ | ⟨g, cap, hv, _, _, _, _, hc', _⟩
                  · omega
                  · cases hv
                    exact ⟨g, rfl, hc' m _ (by simp [nth, List.getD, hmu])⟩
                by_cases hne : nth U m = nth C n
                · have d2 : (nth U m != nth C n) = false := by simpa using hne
                  have e5 := Lib.hid (show addW x (nth C n) = ww by rw [HW.out, if_neg (fun p => p.2.1 hne)])
                  clear hne
                  go_wp2_with fail
                  go_quiet (fail)
                  go_wp2_with fail
                  go_roundw
                  case rel => exact ⟨n + 1, by omega, by go_num, ww, rfl, HF.out _ _ _ e5.out hwle hP3⟩
                  case measure => simp [intOf]; omega
                · have d2 : (nth U m != nth C n) = true := by simpa using hne
                  by_cases hw0 : ww < 0
                  · have e5 := Lib.hid (show addW x (nth C n) = m by rw [HW.out, if_pos ⟨hmu, hne, hw0⟩])
                    clear hne
                    go_wp2_with fail
                    go_quiet (fail)
                    go_wp2_with fail
                    go_roundw
                    case rel => exact ⟨n + 1, by omega, by go_num, m, rfl, HF.out _ _ _ e5.out (Int.le_refl _) hP3⟩
                    case measure => simp [intOf]; omega
                  · have d3 : decide (ww < 0) = false := by simpa using hw0
                    have e5 := Lib.hid (show addW x (nth C n) = ww by rw [HW.out, if_neg (fun p => hw0 p.2.2)])
                    clear hne
                    go_wp2_with fail
                    go_quiet (fail)
                    go_wp2_with fail
                    go_roundw
                    case rel => exact ⟨n + 1, by omega, by go_num, ww, rfl, HF.out _ _ _ e5.out hwle hP3⟩
                    case measure => simp [intOf]; omega
              · have d1 : decide ((m : Int) < (U.length : Int)) = false := by simp; omega
                have d1' : ¬ (m : Int) < (U.length : Int) := by omega
                have e5 := Lib.hid (show addW x (nth C n) = ww by rw [HW.out, if_neg (fun p => hmu p.1)])
                clear HUL2
                go_wp2_with fail
                refine p1.out.mono ?_
                rintro e w3 ⟨rfl, hP3⟩
                go_wp2_with fail
                go_quiet (fail)
                go_wp2_with fail
                go_roundw
                case rel => exact ⟨n + 1, by omega, by go_num, ww, rfl, HF.out _ _ _ e5.out hwle hP3⟩
                case measure => simp [intOf]; omega
            · obtain rfl : n = j := by omega
              have p4 := pair_wrong hP
              rw [hwr] at p4
              have p4 := Lib.hid p4
              clear hkf huf hkl hul hwr
              go_wp2_with fail
              refine p4.out.mono ?_
              rintro e w3 ⟨rfl, rfl⟩
              go_wp2_with fail
              go_ret
              exact ⟨ret_bool (by simp), hb⟩

theorem wrong_law (dd : Int) (t c tc cc : Nat) (ta ca : Option Addr) (T C : List Int) (w : World) (rT : Row .u16 w ta t T) (rC : Row .u16 w ca c C) :
    Calls Try.prog 3 #[.int .i64 dd, .slice ta t tc, .slice ca c cc] w fun e w' => e = .returned (.bool true) ∧ Below w.heap.size w w' := by
  by_cases hd : dd < 0 ∨ 8 < dd
  · exact wrong_new dd t c tc cc ta ca w hd
  · obtain ⟨d, rfl⟩ := Int.eq_ofNat_of_zero_le (show 0 ≤ dd by omega)
    by_cases hl : 100 < t ∨ 100 < c
    · exact wrong_long d t c tc cc ta ca w (by omega) hl
    · exact wrong_yes d t c tc cc ta ca T C w (by omega) (by omega) (by omega) rT rC
end Go.Proofs.Ythdppaohagghbaa.Inputq
