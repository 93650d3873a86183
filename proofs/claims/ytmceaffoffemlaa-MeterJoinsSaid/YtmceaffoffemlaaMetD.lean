/-
  meter: Count, Part, Bound.
-/
import Derived.Test.YtmceaffoffemlaaMetC
namespace Go.Proofs.Ytmceaffoffemlaa.Met
open Go.RowKit
set_option linter.all false

def countI (bs ls : List Int) (p : Int) : Int := if p < 0 ∨ (bs.length : Int) + 1 ≤ p then 0 else cnt bs ls p.toNat
theorem TAt.cells {W : World} {t : Nat} {bv cv : Value} {bs ls : List Int} (h : TAt W t bv cv bs ls) :
    ∃ ab cb gc cc, bv = .slice ab bs.length cb ∧ cv = .slice (some ⟨gc, 0, none⟩) (bs.length + 1) cc ∧ Row .i64 W ab bs.length bs ∧ bs.length + 1 ≤ cc ∧ (∀ j, j < bs.length + 1 → W.cell? ⟨gc, j, none⟩ = some (.int .i64 (cnt bs ls j))) ∧
      W.cell? ⟨t, 0, none⟩ = some bv ∧ W.cell? ⟨t, 1, none⟩ = some cv ∧ W.cell? ⟨t, 2, none⟩ = some (.int .i64 ls.length) ∧ W.cell? ⟨t, 3, none⟩ = some (.int .i64 (sat ls)) ∧ W.cell? ⟨t, 4, none⟩ = some (.int .i64 (lo ls)) ∧ W.cell? ⟨t, 5, none⟩ = some (.int .i64 (hi ls)) := by
  rcases h.c.form with ⟨_, h0, _⟩ | ⟨gc, cc, rfl, hcc, hcm, hown, hgc, hcell, hfr⟩
  · omega
  obtain ⟨ab, cb, rfl, hlb, hbm⟩ := h.b.slice
  exact ⟨ab, cb, gc, cc, rfl, rfl, on_row h.b, hcc, fun j hj => hcell _ _ (by rw [List.getElem?_map, nth_some (by rw [cts_len]; omega), cts_nth hj]; rfl), h.box.cell 0, h.box.cell 1, h.box.cell 2, h.box.cell 3, h.box.cell 4, h.box.cell 5⟩

theorem count_any (w : World) (t : Nat) (bv cv : Value) (bs ls : List Int) (p : Int) (h : TAt w t bv cv bs ls) :
    Calls Try.prog 50 #[.pointer (some ⟨t, 0, none⟩), .int .i64 p] w fun e w' => e = .returned (.int .i64 (countI bs ls p)) ∧ w = w' := by
  obtain ⟨ab, cb, gc, cc, rfl, rfl, hr, hcc, hcell, c0, c1, _⟩ := h.cells
  clear h hr
  by_cases h1 : p < 0
  · have e := Lib.hid (show countI bs ls p = 0 by simp [countI, h1])
    go_enter Try.func50, Try.ntmps50
    go_wp2_with fail
    go_ret
    exact ⟨ret_int e.out.symm, rfl⟩
  · by_cases h2 : (bs.length : Int) + 1 ≤ p
    · have e := Lib.hid (show countI bs ls p = 0 by simp [countI, h2])
      go_enter Try.func50, Try.ntmps50
      go_wp2_with fail
      go_ret
      exact ⟨ret_int e.out.symm, rfl⟩
    · obtain ⟨k, rfl⟩ : ∃ k : Nat, p = k := ⟨p.toNat, by omega⟩
      have e := Lib.hid (show countI bs ls k = cnt bs ls k by unfold countI; rw [if_neg (by omega)]; rfl)
      have ck := hcell k (by omega)
      have i1 : (0 : Int) ≤ (k : Int) := by omega
      have i2 : (k : Int) < (bs.length : Int) + 1 := by omega
      clear hcell
      go_enter Try.func50, Try.ntmps50
      go_wp2_with fail
      go_ret
      exact ⟨ret_int e.out.symm, rfl⟩

set_option maxRecDepth 100000 in
set_option maxHeartbeats 4000000 in
theorem part_any (w : World) (t : Nat) (bv cv : Value) (bs ls : List Int) (p : Int) (h : TAt w t bv cv bs ls) (hl : ls.length ≤ 1000) :
    Calls Try.prog 21 #[.pointer (some ⟨t, 0, none⟩), .int .i64 p] w fun e w' => e = .returned (.int .i64 (partI bs ls p)) ∧ Below w.heap.size w w' := by
  obtain ⟨ab, cb, gc, cc, rfl, rfl, hr, hcc, hcell, c0, c1, c2, _⟩ := h.cells
  have h64 := h.right.2.2
  clear h hr
  by_cases h0 : ls.length = 0
  · have e := Lib.hid (show partI bs ls p = -1 by simp [partI, h0])
    rw [h0] at c2
    have H0 := Lib.hid h0
    clear h0
    go_enter Try.func21, Try.ntmps21
    go_wp2_with fail
    go_ret
    exact ⟨ret_int e.out.symm, Below.refl _ _⟩
  · obtain ⟨hN, hhN⟩ : ∃ hN, hN = clampH p := ⟨_, rfl⟩
    have e := Lib.hid (show partI bs ls p = (pt (okP (cnt bs ls) hN ls.length) 0 bs.length : Nat) by rw [hhN]; simp [partI, h0])
    have h100 : hN ≤ 100 := by rw [hhN]; unfold clampH; omega
    have hcl : (hN : Int) = max 0 (min p 100) := by rw [hhN]; unfold clampH; omega
    have pW := Lib.hid (fun n => (word_clamp (w.drewN n) p 0 100 hN (by omega) hcl).mono (R' := fun e w'' => e = .returned (.int .i64 hN) ∧ ∃ m, w'' = w.drewN m) (fun _ _ h => ⟨h.1, _, h.2.symm⟩))
    have hS := Lib.hid (S_le bs ls)
    have hmul : hN * ls.length ≤ 100 * 1000 := Nat.mul_le_mul h100 hl
    have hwm : IntKind.i64.wrap ((hN : Int) * (ls.length : Int)) = ((hN * ls.length : Nat) : Int) := by rw [← Int.natCast_mul, IntWalk.i64_in _ (by omega)]
    obtain ⟨want, hwt⟩ : ∃ want, want = hN * ls.length := ⟨_, rfl⟩
    rw [← hwt] at hwm hmul
    have HWT := Lib.hid hwt
    clear hwt
    have h0' : ¬ ((ls.length : Int) = 0) := by omega
    clear hhN hcl
    go_enter Try.func21, Try.ntmps21
    go_upto_region 3 with fail
    go_quiet (exact pW.out _)
    go_wp2_with fail
    obtain ⟨ok, hok⟩ : ∃ ok, ok = okP (cnt bs ls) hN ls.length := ⟨_, rfl⟩
    rw [← hok] at e
    have HOK := Lib.hid hok
    clear hok
    go_loopw [6, 26] (fun sv iv wr => ∃ k : Nat, k ≤ bs.length + 1 ∧ iv = .int .i64 k ∧ sv = .int .i64 (S (cnt bs ls) k : Nat) ∧ (k ≤ bs.length → pt ok k (bs.length - k) = pt ok 0 bs.length) ∧ (k = bs.length + 1 → pt ok 0 bs.length = bs.length) ∧ ∃ nn, wr = w.drewN nn) (fun _ iv _ => bs.length + 1 - (intOf iv).toNat)
    case atStart => exact ⟨0, by omega, rfl, rfl, fun _ => rfl, fun h => by omega, _, rfl⟩
    case round =>
      obtain ⟨k, hk, rfl, rfl, r1, r2, nn, rfl⟩ := hrel
      by_cases hlt : k < bs.length + 1
      · have ck := hcell k hlt
        have i1 : (0 : Int) ≤ (k : Int) := by omega
        have i2 : (k : Int) < (bs.length : Int) + 1 := by omega
        have hSk := hS.out (k + 1)
        have hSe : S (cnt bs ls) (k + 1) = S (cnt bs ls) k + cnt bs ls k := rfl
        have hokk : ok k = decide (1 ≤ S (cnt bs ls) (k + 1) ∧ want ≤ 100 * S (cnt bs ls) (k + 1)) := by rw [HOK.out, HWT.out]; rfl
        clear hcell
        rw [hSe] at hSk hokk
        have HSe := Lib.hid hSe
        clear hSe
        generalize S (cnt bs ls) k = s0 at *
        generalize cnt bs ls k = v at *
        have hw1 : IntKind.i64.wrap ((s0 : Int) + (v : Int)) = ((s0 + v : Nat) : Int) := by rw [IntWalk.i64_in _ (by omega)]; omega
        obtain ⟨s1, hs1⟩ : ∃ s1, s1 = s0 + v := ⟨_, rfl⟩
        rw [← hs1] at hw1 hSk hokk
        have hw2 : IntKind.i64.wrap (100 * (s1 : Int)) = 100 * (s1 : Int) := IntWalk.i64_in _ (by omega)
        have HS1 := Lib.hid hs1
        clear hs1
        by_cases hcond : 1 ≤ s1 ∧ want ≤ 100 * s1
        · have j1 : (want : Int) ≤ 100 * (s1 : Int) := by omega
          have j2 : (0 : Int) < (s1 : Int) := by omega
          have hokT : ok k = true := by rw [hokk]; exact decide_eq_true hcond
          have hres : pt ok 0 bs.length = k := by
            rw [← r1 (by omega)]
            by_cases hkn : k = bs.length
            · subst hkn; simp [pt]
            · exact pt_here (by omega) hokT
          have HRES := Lib.hid hres
          clear hokk hokT hres r1 r2 hcond
          go_wp2_with fail
          go_ret
          exact ⟨ret_int (by rw [e.out, HRES.out]), below_drewN (Below.refl _ _) _⟩
        · have hokF : ¬ ok k = true := by rw [hokk]; simpa using hcond
          have R1 := Lib.hid (show k + 1 ≤ bs.length → pt ok (k + 1) (bs.length - (k + 1)) = pt ok 0 bs.length from fun h => by rw [← r1 (by omega)]; exact (pt_next (by omega) hokF).symm)
          have R2 := Lib.hid (show k + 1 = bs.length + 1 → pt ok 0 bs.length = bs.length from fun h => by
            have : k = bs.length := by omega
            rw [← r1 (by omega), this]; simp [pt])
          have HC := Lib.hid hcond
          clear hokk hokF r1 r2 hcond
          by_cases j1 : (want : Int) ≤ 100 * (s1 : Int)
          · have j2 : ¬ (0 : Int) < (s1 : Int) := by have := HC.out; omega
            go_wp2_with fail
            go_roundw
            case rel => exact ⟨k + 1, by omega, by go_num, by rw [HSe.out, HS1.out], R1.out, R2.out, nn, rfl⟩
            case measure => simp [intOf]; omega
          · go_wp2_with fail
            go_roundw
            case rel => exact ⟨k + 1, by omega, by go_num, by rw [HSe.out, HS1.out], R1.out, R2.out, nn, rfl⟩
            case measure => simp [intOf]; omega
      · obtain rfl : k = bs.length + 1 := by omega
        have HRES := Lib.hid (r2 rfl)
        clear r1 r2 hcell
        go_wp2_with fail
        go_ret
        exact ⟨ret_int (by rw [e.out, HRES.out]), below_drewN (Below.refl _ _) _⟩

set_option maxRecDepth 100000 in
set_option maxHeartbeats 4000000 in
theorem bound_any (w : World) (t : Nat) (bv cv : Value) (bs ls : List Int) (p : Int) (h : TAt w t bv cv bs ls) (hl : ls.length ≤ 1000) :
    Calls Try.prog 23 #[.pointer (some ⟨t, 0, none⟩), .int .i64 p] w fun e w' => e = .returned (.int .i64 (boundI bs ls p)) ∧ Below w.heap.size w w' := by
  have q := Lib.hid (part_any w t bv cv bs ls p h hl)
  have hin := part_in bs ls p
  have hB := Lib.hid (show boundI bs ls p = if partI bs ls p < 0 then 0 else if partI bs ls p < bs.length then min (nth bs (partI bs ls p).toNat) (hi ls) else hi ls from rfl)
  have HT := Lib.hid h
  clear h
  generalize boundI bs ls p = R at *
  generalize partI bs ls p = P at *
  go_enter Try.func23, Try.ntmps23
  go_wp2_with fail
  refine q.out.mono ?_
  rintro e w1 ⟨rfl, hb1⟩
  have h1 := HT.out.below hb1
  obtain ⟨ab, cb, gc, cc, rfl, rfl, hr, hcc, hcell, c0, c1, c2, c3, c4, c5⟩ := h1.cells
  clear h1 hcell
  by_cases hP : P < 0
  · have e := Lib.hid (show R = 0 by rw [hB.out, if_pos hP])
    go_wp2_with fail
    go_ret
    exact ⟨ret_int e.out.symm, hb1⟩
  · obtain ⟨k, rfl⟩ : ∃ k : Nat, P = k := ⟨P.toNat, by omega⟩
    by_cases hk : k < bs.length
    · obtain ⟨gb, ob, rfl, hgb, hcb⟩ := hr.2 (by omega)
      have ck := hcb k hk
      have hk' : (k : Int) < (bs.length : Int) := by omega
      have i1 : (0 : Int) ≤ (k : Int) := by omega
      have e := hB.out
      rw [if_neg hP, if_pos hk'] at e
      simp only [Int.toNat_natCast] at e
      clear hcb hr hP
      generalize nth bs k = v at *
      have hmin : (if hi ls < v then hi ls else v) = R := by rw [e]; omega
      clear e
      go_wp2_with fail
      go_region
      all_goals
        go_wp2_with fail
        go_ret
        exact ⟨rfl, hb1.drew⟩
    · have hk' : ¬ (k : Int) < (bs.length : Int) := by omega
      have e := Lib.hid (show R = hi ls by rw [hB.out, if_neg hP, if_neg hk'])
      go_wp2_with fail
      go_ret
      exact ⟨ret_int e.out.symm, hb1⟩
end Go.Proofs.Ytmceaffoffemlaa.Met
