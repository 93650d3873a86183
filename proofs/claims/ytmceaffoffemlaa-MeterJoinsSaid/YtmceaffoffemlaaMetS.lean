/-
  backstayref37: Ends, Part, Bound.
-/
import Derived.Test.YtmceaffoffemlaaMetR
namespace Go.Proofs.Ytmceaffoffemlaa.Met
open Go.RowKit
set_option linter.all false

theorem fold_take {f : Int → Int → Int} {ls : List Int} {i : Nat} (x : Int) (h : i < ls.length) : (ls.take (i + 1)).foldl f x = f ((ls.take i).foldl f x) (nth ls i) := by
  rw [take_succ_nth h, List.foldl_append]; rfl
theorem lo_fold {ls : List Int} (h : 0 < ls.length) : ls.foldl min (nth ls 0) = lo ls := by
  cases ls with
  | nil => simp at h
  | cons a r =>
    have : nth (a :: r) 0 = a := rfl
    rw [this]; simp [lo]
theorem hi_fold {ls : List Int} (h : 0 < ls.length) : ls.foldl max (nth ls 0) = hi ls := by
  cases ls with
  | nil => simp at h
  | cons a r =>
    have : nth (a :: r) 0 = a := rfl
    rw [this]; simp [hi]

set_option maxRecDepth 100000 in
set_option maxHeartbeats 4000000 in
theorem ends_any (w : World) (a : Option Addr) (c : Nat) (ls : List Int) (hr : Row .i64 w a ls.length ls) (hl : ls.length ≤ 9223372036854775807) :
    Calls Try.prog 54 #[.slice a ls.length c] w fun e w' => e = .returned (.tuple #[.int .i64 (lo ls), .int .i64 (hi ls)]) ∧ Below w.heap.size w w' := by
  by_cases h0 : ls.length = 0
  · have e1 := List.eq_nil_of_length_eq_zero h0
    subst e1
    go_enter Try.func54, Try.ntmps54
    go_wp2_with fail
    go_ret2
    exact ⟨rfl, Below.refl _ _⟩
  · obtain ⟨gb, ob, rfl, hgb, hcb⟩ := hr.2 (by omega)
    have c0 := hcb 0 (by omega)
    rw [Nat.add_zero] at c0
    have HCB := Lib.hid hcb
    have j0 : (0 : Int) < (ls.length : Int) := by omega
    have j1 : ¬ (ls.length : Int) = 0 := by omega
    have HLO := Lib.hid (lo_fold (ls := ls) (by omega))
    have HHI := Lib.hid (hi_fold (ls := ls) (by omega))
    clear hcb hr
    generalize nth ls 0 = x0 at *
    go_enter Try.func54, Try.ntmps54
    go_wp2_with fail
    go_region
    all_goals
      go_wp2_with fail
      go_loopw [4, 5, 6] (fun av bv iv wr => ∃ i : Nat, i ≤ ls.length ∧ iv = .int .i64 i ∧ av = .int .i64 ((ls.take i).foldl min x0) ∧ bv = .int .i64 ((ls.take i).foldl max x0) ∧ ∃ nn, wr = w.drewN nn) (fun _ _ iv _ => ls.length - (intOf iv).toNat)
      case atStart => exact ⟨0, by omega, rfl, rfl, rfl, 1, rfl⟩
      case round =>
        obtain ⟨i, hi, rfl, rfl, rfl, nn, rfl⟩ := hrel
        by_cases hlt : i < ls.length
        · have ci := HCB.out i hlt
          have i0 : (i : Int) < (ls.length : Int) := by omega
          have i1 : (0 : Int) ≤ (i : Int) := by omega
          have H1 := Lib.hid (fold_take (f := min) x0 hlt)
          have H2 := Lib.hid (fold_take (f := max) x0 hlt)
          generalize (ls.take i).foldl min x0 = A at *
          generalize (ls.take i).foldl max x0 = B at *
          generalize nth ls i = v at *
          obtain ⟨m1, hm1⟩ : ∃ m, m = min A v := ⟨_, rfl⟩
          obtain ⟨m2, hm2⟩ : ∃ m, m = max B v := ⟨_, rfl⟩
          have q1 : (if v < A then v else A) = m1 := by rw [hm1]; omega
          have q2 : (if B < v then v else B) = m2 := by rw [hm2]; omega
          have HM1 := Lib.hid hm1
          have HM2 := Lib.hid hm2
          clear hm1 hm2
          go_wp2_with fail
          go_region
          all_goals
            go_wp2_with fail
            go_roundw
            case rel => exact ⟨i + 1, by omega, by go_num, by rw [H1.out, HM1.out], by rw [H2.out, HM2.out], nn + 1, rfl⟩
            case measure => simp [intOf]; omega
        · obtain rfl : i = ls.length := by omega
          have HP := Lib.hid (show ls.take ls.length = ls from List.take_length)
          go_wp2_with fail
          go_ret2
          rw [HP.out, HLO.out, HHI.out]
          exact ⟨rfl, below_drewN (Below.refl _ _) _⟩

set_option maxRecDepth 100000 in
set_option maxHeartbeats 4000000 in
theorem ref_part (w : World) (a b : Option Addr) (c d : Nat) (bs ls : List Int) (p : Int) (hr : Row .i64 w a bs.length bs) (hlr : Row .i64 w b ls.length ls) (h64 : bs.length ≤ 64) (hl : ls.length ≤ 1000) :
    Calls Try.prog 22 #[.slice a bs.length c, .slice b ls.length d, .int .i64 p] w fun e w' => e = .returned (.int .i64 (partI bs ls p)) ∧ w' = w := by
  by_cases h0 : ls.length = 0
  · have e := Lib.hid (show partI bs ls p = -1 by simp [partI, h0])
    have h0' : (ls.length : Int) = 0 := by omega
    clear h0
    go_enter Try.func22, Try.ntmps22
    go_wp2_with fail
    go_ret
    exact ⟨ret_int e.out.symm, rfl⟩
  · obtain ⟨hN, hhN⟩ : ∃ hN, hN = clampH p := ⟨_, rfl⟩
    have e := Lib.hid (show partI bs ls p = (pt (okP (cnt bs ls) hN ls.length) 0 bs.length : Nat) by rw [hhN]; simp [partI, h0])
    have h100 : hN ≤ 100 := by rw [hhN]; unfold clampH; omega
    obtain ⟨m1, hm1⟩ : ∃ m, m = max p 0 := ⟨_, rfl⟩
    have q1 : (if p < 0 then 0 else p) = m1 := by rw [hm1]; omega
    have q2 : (if 100 < m1 then 100 else m1) = (hN : Int) := by rw [hm1, hhN]; unfold clampH; omega
    have hS := Lib.hid (S_le bs ls)
    have hmul : hN * ls.length ≤ 100 * 1000 := Nat.mul_le_mul h100 hl
    have hwm : IntKind.i64.wrap ((hN : Int) * (ls.length : Int)) = ((hN * ls.length : Nat) : Int) := by rw [← Int.natCast_mul, IntWalk.i64_in _ (by omega)]
    obtain ⟨want, hwt⟩ : ∃ want, want = hN * ls.length := ⟨_, rfl⟩
    rw [← hwt] at hwm hmul
    have HWT := Lib.hid hwt
    clear hwt
    have h0' : ¬ ((ls.length : Int) = 0) := by omega
    have pC := Lib.hid (fun (q : Nat) => ref_count w a b c d bs ls q hr hlr (by omega) (by omega) (by omega))
    obtain ⟨ok, hok⟩ : ∃ ok, ok = okP (cnt bs ls) hN ls.length := ⟨_, rfl⟩
    rw [← hok] at e
    have HOK := Lib.hid hok
    clear hok hhN hm1 hr hlr h0
    go_enter Try.func22, Try.ntmps22
    go_wp2_with fail
    rw [show ((ls.length : Int) == 0) = false from by simpa using h0']
    go_loopw [8, 9] (fun sv iv wr => ∃ k : Nat, k ≤ bs.length + 1 ∧ iv = .int .i64 k ∧ sv = .int .i64 (S (cnt bs ls) k : Nat) ∧ (k ≤ bs.length → pt ok k (bs.length - k) = pt ok 0 bs.length) ∧ (k = bs.length + 1 → pt ok 0 bs.length = bs.length) ∧ wr = w) (fun _ iv _ => bs.length + 1 - (intOf iv).toNat)
    case atStart => exact ⟨0, by omega, rfl, rfl, fun _ => rfl, fun h => by omega, rfl⟩
    case round =>
      obtain ⟨k, hk, rfl, rfl, r1, r2, rfl⟩ := hrel
      by_cases hlt : k < bs.length + 1
      · have i1 : (0 : Int) ≤ (k : Int) := by omega
        have i2 : (k : Int) ≤ (bs.length : Int) := by omega
        have pk := pC.out k
        simp only [Int.toNat_natCast] at pk
        have PK := Lib.hid pk
        clear pk
        have hSk := hS.out (k + 1)
        have hSe : S (cnt bs ls) (k + 1) = S (cnt bs ls) k + cnt bs ls k := rfl
        have hokk : ok k = decide (1 ≤ S (cnt bs ls) (k + 1) ∧ want ≤ 100 * S (cnt bs ls) (k + 1)) := by rw [HOK.out, HWT.out]; rfl
        rw [hSe] at hSk hokk
        have HSe := Lib.hid hSe
        clear hSe
        generalize S (cnt bs ls) k = s0 at *
        generalize cnt bs ls k = v at *
        have hw1 : IntKind.i64.wrap ((s0 : Int) + (v : Int)) = ((s0 + v : Nat) : Int) := by rw [IntWalk.i64_in _ (by omega)]; omega
        obtain ⟨s1, hs1⟩ : ∃ s1, s1 = s0 + v := ⟨_, rfl⟩
        rw [← hs1] at hw1 hSk hokk
        have hw2 : IntKind.i64.wrap (100 * (s1 : Int)) = 100 * (s1 : Int) := IntWalk.i64_in _ (by omega)
        have HS1 := Lib.hid hs1
        clear hs1
        go_wp2_with fail
        refine PK.out.mono ?_
        rintro e w' ⟨rfl, rfl⟩
        by_cases hcond : 1 ≤ s1 ∧ want ≤ 100 * s1
        · have j1 : (want : Int) ≤ 100 * (s1 : Int) := by omega
          have j2 : (1 : Int) ≤ (s1 : Int) := by omega
          have hokT : ok k = true := by rw [hokk]; exact decide_eq_true hcond
          have hres : pt ok 0 bs.length = k := by
            rw [← r1 (by omega)]
            by_cases hkn : k = bs.length
            · subst hkn; simp [pt]
            · exact pt_here (by omega) hokT
          have HRES := Lib.hid hres
          clear hokk hokT hres r1 r2 hcond
          go_wp2_with fail
          go_ret
          exact ⟨ret_int (by rw [e.out, HRES.out]), by first | trivial | rfl⟩
        · have hokF : ¬ ok k = true := by rw [hokk]; simpa using hcond
          have R1 := Lib.hid (show k + 1 ≤ bs.length → pt ok (k + 1) (bs.length - (k + 1)) = pt ok 0 bs.length from fun h => by rw [← r1 (by omega)]; exact (pt_next (by omega) hokF).symm)
          have R2 := Lib.hid (show k + 1 = bs.length + 1 → pt ok 0 bs.length = bs.length from fun h => by
            have : k = bs.length := by omega
            rw [← r1 (by omega), this]; simp [pt])
          have HC := Lib.hid hcond
          clear hokk hokF r1 r2 hcond
          by_cases j2 : (1 : Int) ≤ (s1 : Int)
          · have j1 : ¬ (want : Int) ≤ 100 * (s1 : Int) := by have := HC.out; omega
            go_wp2_with fail
            go_roundw
            case rel => exact ⟨k + 1, by omega, by go_num, by rw [HSe.out, HS1.out], R1.out, R2.out, by first | trivial | rfl⟩
            case measure => simp [intOf]; omega
          · obtain rfl : s1 = 0 := by omega
            go_wp2_with fail
            go_roundw
            case rel => exact ⟨k + 1, by omega, by go_num, by rw [HSe.out, ← HS1.out]; rfl, R1.out, R2.out, by first | trivial | rfl⟩
            case measure => simp [intOf]; omega
      · obtain rfl : k = bs.length + 1 := by omega
        have HRES := Lib.hid (r2 rfl)
        have i2 : ¬ ((bs.length : Int) + 1) ≤ (bs.length : Int) := by omega
        clear r1 r2
        go_wp2_with fail
        go_ret
        exact ⟨ret_int (by rw [e.out, HRES.out]), by first | trivial | rfl⟩

set_option maxRecDepth 100000 in
set_option maxHeartbeats 4000000 in
theorem ref_bound (w : World) (a b : Option Addr) (c d : Nat) (bs ls : List Int) (p : Int) (hr : Row .i64 w a bs.length bs) (hlr : Row .i64 w b ls.length ls) (h64 : bs.length ≤ 64) (hl : ls.length ≤ 1000) :
    Calls Try.prog 24 #[.slice a bs.length c, .slice b ls.length d, .int .i64 p] w fun e w' => e = .returned (.int .i64 (boundI bs ls p)) ∧ Below w.heap.size w w' := by
  have q := Lib.hid (ref_part w a b c d bs ls p hr hlr h64 hl)
  have q2 := Lib.hid (ends_any w b d ls hlr (by omega))
  have hin := part_in bs ls p
  have hB := Lib.hid (show boundI bs ls p = if partI bs ls p < 0 then 0 else if partI bs ls p < bs.length then min (nth bs (partI bs ls p).toNat) (hi ls) else hi ls from rfl)
  generalize boundI bs ls p = R at *
  generalize partI bs ls p = P at *
  have HR := Lib.hid hr
  clear hr hlr
  go_enter Try.func24, Try.ntmps24
  go_wp2_with fail
  refine q.out.mono ?_
  rintro e w1 ⟨rfl, rfl⟩
  go_wp2_with fail
  refine q2.out.mono ?_
  rintro e w2 ⟨rfl, hb2⟩
  have hr := HR.out.below hb2
  by_cases hP : P < 0
  · have e := Lib.hid (show R = 0 by rw [hB.out, if_pos hP])
    clear hr
    go_wp2_with fail
    go_ret
    exact ⟨ret_int e.out.symm, hb2⟩
  · obtain ⟨k, rfl⟩ : ∃ k : Nat, P = k := ⟨P.toNat, by omega⟩
    by_cases hk : k < bs.length
    · obtain ⟨gb, ob, rfl, hgb, hcb⟩ := hr.2 (by omega)
      have ck := hcb k hk
      have hk' : (k : Int) < (bs.length : Int) := by omega
      have i1 : (0 : Int) ≤ (k : Int) := by omega
      have e := hB.out
      rw [if_neg hP, if_pos hk'] at e
      simp only [Int.toNat_natCast] at e
      clear hcb hr hP
      generalize nth bs k = v at *
      have hmin : (if hi ls < v then hi ls else v) = R := by rw [e]; omega
      clear e
      go_wp2_with fail
      go_ret
      exact ⟨rfl, hb2⟩
    · have hk' : ¬ (k : Int) < (bs.length : Int) := by omega
      have e := Lib.hid (show R = hi ls by rw [hB.out, if_neg hP, if_neg hk'])
      clear hr
      go_wp2_with fail
      go_ret
      exact ⟨ret_int e.out.symm, hb2⟩
end Go.Proofs.Ytmceaffoffemlaa.Met
