/-
  Texts joined: DfP. No condition.
-/
import Derived.Test.YtlhoffhagfhbcaaBDiff22
namespace Go.Proofs.Ytlhoffhagfhbcaa.Dif
open Go.RowKit Go.Sort Go.Proofs.Ytlhoffhagfhbcaa.Byt Go.Proofs.Ytlhoffhagfhbcaa.Gm Go.Proofs.Ytlhoffhagfhbcaa.Num Go.Proofs.Ytlhoffhagfhbcaa.Spe
set_option linter.all false

theorem inA_congr {ls os : List (Nat × Nat)} {j : Nat} (h : ls[j]? = os[j]?) : inA ls j = inA os j := by
  unfold inA
  rw [List.getD_eq_getElem?_getD, List.getD_eq_getElem?_getD, h]
theorem stK_congr (sd : Nat) {ls os : List (Nat × Nat)} : ∀ {p : Nat}, (∀ j, j < p → ls[j]? = os[j]?) → stK sd ls p = stK sd os p
  | 0, _ => rfl
  | p + 1, h => by
    show stepF (stK sd ls p) (inA ls p) = stepF (stK sd os p) (inA os p)
    rw [stK_congr sd (fun j hj => h j (by omega)), inA_congr (h p (by omega))]
theorem neS_no {sd : Nat} {ls os : List (Nat × Nat)} {p : Nat} (h : ∀ j, j < p → ls[j]? = os[j]?) : neS sd ls sd os p = false := by
  rw [neS, (eqS_iff sd ls sd os p).2 (by rw [stK_congr sd h])]; rfl
theorem inNe_no {ls os : List (Nat × Nat)} {j : Nat} (h : inNe ls os j = false) : ls[j]? = os[j]? := by
  unfold inNe at h
  simpa using h
theorem fstF_before {p : Nat → Bool} : ∀ (k n : Nat), (fstF p k n = -1 → ∀ j, n ≤ j → j < n + k → p j = false) ∧ (∀ i : Nat, fstF p k n = (i : Int) → ∀ j, n ≤ j → j < i → p j = false)
  | 0, n => ⟨fun _ j h1 h2 => by omega, fun i h => by rw [fstF_end] at h; omega⟩
  | k + 1, n => by
    by_cases hp : p n = true
    · rw [fstF_yes hp]
      exact ⟨fun h => by omega, fun i h j h1 h2 => by omega⟩
    · have hp' : p n = false := by simpa using hp
      rw [fstF_no hp']
      obtain ⟨h1, h2⟩ := fstF_before (p := p) k (n + 1)
      refine ⟨fun h j ha hb => ?_, fun i h j ha hb => ?_⟩
      · by_cases e : j = n
        · subst e; exact hp'
        · exact h1 h j (by omega) (by omega)
      · by_cases e : j = n
        · subst e; exact hp'
        · exact h2 i h j (by omega) hb
theorem first_self (sd : Nat) (ls : List (Nat × Nat)) : firstV sd ls sd ls = -1 := fstF_none _ _ (fun j _ _ => neS_no (fun _ _ => rfl))
theorem inputs_self (ls : List (Nat × Nat)) : inputsV ls ls = -1 := fstF_none _ _ (fun j _ _ => by unfold inNe; simp)
theorem meet_self (sd : Nat) (ls : List (Nat × Nat)) : meetV sd ls sd ls 0 = 0 := by
  rw [meetV, if_neg (by omega)]
  show fstF (eqS sd ls sd ls) (min ls.length ls.length + 1 - 0) 0 = 0
  exact fstF_yes ((eqS_iff sd ls sd ls 0).2 rfl)
theorem behind_neg {sd : Nat} {ls os : List (Nat × Nat)} (h : inputsV ls os = -1) : firstV sd ls sd os = -1 := by
  have h1 := (fstF_before (p := inNe ls os) (min ls.length os.length) 0).1 h
  exact fstF_none _ _ (fun j _ hj => neS_no (fun i hi => inNe_no (h1 i (by omega) (by omega))))
theorem behind_pos {sd : Nat} {ls os : List (Nat × Nat)} {n : Nat} (h : inputsV ls os = (n : Int)) : firstV sd ls sd os = -1 ∨ (n : Int) < firstV sd ls sd os := by
  have h1 := (fstF_before (p := inNe ls os) (min ls.length os.length) 0).2 n h
  rcases fstF_form (neS sd ls sd os) (min ls.length os.length + 1) 0 with e | ⟨i, e, -, -, hp⟩
  · exact .inl e
  · refine .inr ?_
    have e' : firstV sd ls sd os = (i : Int) := e
    rw [e']
    rcases Nat.lt_or_ge n i with h2 | h2
    · omega
    · rw [neS_no (fun j hj => inNe_no (h1 j (by omega) (by omega)))] at hp
      cases hp

set_option maxRecDepth 100000 in
set_option maxHeartbeats 8000000 in
theorem behind_law (w : World) (sd so : Nat) (hs : sd < 4294967296) (ho : so < 4294967296) (a b : Option Addr) (ca cb : Nat) (ls os : List (Nat × Nat)) (hra : InRow w a ls) (hrb : InRow w b os) (hla : ls.length ≤ ca) (hlb : os.length ≤ cb) (hca : ca ≤ 9223372036854775807) (hcb : cb ≤ 9223372036854775807) (hna : a = none → ca = 0) (hnb : b = none → cb = 0) :
    Calls Try.prog 6 #[.agg #[.int .u32 (sd : Int), .slice a ls.length ca], .agg #[.int .u32 (so : Int), .slice b os.length cb]] w fun e w' => e = .returned (.bool true) ∧ Below w.heap.size w w' := by
  obtain ⟨l, hll⟩ : ∃ l, ls.length = l := ⟨_, rfl⟩
  obtain ⟨m, hmm⟩ : ∃ m, os.length = m := ⟨_, rfl⟩
  obtain ⟨ta, hta⟩ : ∃ t, t = w.heap.size := ⟨_, rfl⟩
  obtain ⟨tb, htb⟩ : ∃ t, t = w.heap.size + 1 := ⟨_, rfl⟩
  obtain ⟨W1, hW1⟩ : ∃ W1, W1 = (w.alloc (.cells #[.int .u32 (sd : Int), .slice a l ca] 49)).alloc (.cells #[.int .u32 (so : Int), .slice b m cb] 49) := ⟨_, rfl⟩
  have hT : TwoT w W1 ta tb 49 sd a l ca so b m cb := by rw [hW1, hta, htb]; exact TwoT.new ..
  have HT := Lib.hid hT
  have HIA := Lib.hid (show ∀ V, Bw w V → InRow V a ls ∧ InRow V b os from fun V h => ⟨inRow_pre hra h, inRow_pre hrb h⟩)
  have HTB := Lib.hid (show w.heap.size ≤ tb ∧ ta ≠ tb by omega)
  have pA := Lib.hid (awake36 W1)
  have HLL := Lib.hid hll
  have HMM := Lib.hid hmm
  rw [hll, hmm]
  clear hT hra hrb hll hmm
  go_enter Try.func6, Try.ntmps6
  go_upto_region 1 with fail
  rw [← hW1, ← htb, ← hta]
  clear hW1 hta htb
  go_wp2_with fail
  refine pA.out.mono ?_
  rintro e w2 ⟨rfl, b2⟩
  have HB2 := Lib.hid (show Bw W1 w2 from b2)
  obtain ⟨x0, x1, y0, y1⟩ : w2.cell? ⟨ta, 0, none⟩ = some (.int .u32 (sd : Int)) ∧ w2.cell? ⟨ta, 1, none⟩ = some (.slice a l ca) ∧ w2.cell? ⟨tb, 0, none⟩ = some (.int .u32 (so : Int)) ∧ w2.cell? ⟨tb, 1, none⟩ = some (.slice b m cb) := ⟨(HT.out.x.below HB2.out HT.out.x.lt).cell 0, (HT.out.x.below HB2.out HT.out.x.lt).cell 1, (HT.out.y.below HB2.out HT.out.y.lt).cell 0, (HT.out.y.below HB2.out HT.out.y.lt).cell 1⟩
  clear b2 pA
  by_cases hsm : l ≤ 100 ∧ m ≤ 100
  · have pS := Lib.hid (show Calls Try.prog 19 #[.agg #[.int .u32 (sd : Int), .slice a l ca], .agg #[.int .u32 (so : Int), .slice b m cb]] w2 fun e w' => e = .returned (.bool true) ∧ Bw w2 w' from by
      have := small_any w2 sd so a b l m ca cb
      rw [decide_eq_true hsm.1, decide_eq_true hsm.2] at this
      exact this)
    go_wp2_with fail
    refine pS.out.mono ?_
    rintro e w3 ⟨rfl, b3⟩
    have HB3 := Lib.hid (HB2.out.go b3)
    have hx3 := HT.out.x.below HB3.out HT.out.x.lt
    have hy3 := HT.out.y.below HB3.out HT.out.y.lt
    have k0 := hx3.cell 0
    have k1 := hy3.frozen 0
    simp at k0
    obtain ⟨W5, hW5⟩ : ∃ W5, W5 = w3.setCell ⟨tb, 0, none⟩ (.int .u32 (sd : Int)) := ⟨_, rfl⟩
    have hx5 : Blk W5 ta 49 #[.int .u32 (sd : Int), .slice a l ca] := by rw [hW5]; exact hx3.far HTB.out.2 _
    have hy5 : Blk W5 tb 49 #[.int .u32 (sd : Int), .slice b m cb] := by rw [hW5]; exact hy3.set_ 0 _
    have hb5 : Bw w W5 := by
      rw [hW5]
      exact RowKit.Below.setCell (p := ⟨tb, 0, none⟩) (Below.trans HT.out.below (Below.mono HB3.out HT.out.below.size)) HTB.out.1 _
    have y0' := hy3.cell 0
    simp at y0'
    have HX5 := Lib.hid hx5
    have HY5 := Lib.hid hy5
    have HB5 := Lib.hid hb5
    clear b3 pS x0 x1 y0 y1 hx3 hy3 hx5 hy5 hb5
    go_upto_region 6 with fail
    rw [← hW5]
    clear hW5 k0 k1 y0'
    have q0 := cell_regrown (HX5.out.cell 0)
    have q1 := cell_regrown (HX5.out.cell 1)
    have q2 := cell_regrown (HY5.out.cell 0)
    have q3 := cell_regrown (HY5.out.cell 1)
    have hL : ls.length ≤ 20000 := by rw [HLL.out]; omega
    have hM : os.length ≤ 20000 := by rw [HMM.out]; omega
    have cI := regrown W5 (v := .int .i64 (inputsV ls os)) (fun W h => by
      have := inputs_any W sd sd a b ca cb ls os (HIA.out W (HB5.out.go h)).1 (HIA.out W (HB5.out.go h)).2 hL hM
      rw [HLL.out, HMM.out] at this
      exact this)
    have cF := regrown W5 (v := .int .i64 (firstV sd ls sd os)) (fun W h => by
      have := first_any W sd sd hs hs a b ca cb ls os (HIA.out W (HB5.out.go h)).1 (HIA.out W (HB5.out.go h)).2 hL hM
      rw [HLL.out, HMM.out] at this
      exact this)
    have pF := Lib.hid (show ∀ W, Bw W5 W → Calls Try.prog 23 #[.agg #[.int .u32 (sd : Int), .slice a l ca], .agg #[.int .u32 (sd : Int), .slice a l ca]] W fun e w' => e = .returned (.int .i64 (-1)) ∧ Bw W w' from fun W h => by
      have := first_any W sd sd hs hs a a ca ca ls ls (HIA.out W (HB5.out.go h)).1 (HIA.out W (HB5.out.go h)).1 hL hL
      rw [HLL.out, first_self] at this
      exact this)
    have pI := Lib.hid (show ∀ W, Bw W5 W → Calls Try.prog 25 #[.agg #[.int .u32 (sd : Int), .slice a l ca], .agg #[.int .u32 (sd : Int), .slice a l ca]] W fun e w' => e = .returned (.int .i64 (-1)) ∧ Bw W w' from fun W h => by
      have := inputs_any W sd sd a a ca ca ls ls (HIA.out W (HB5.out.go h)).1 (HIA.out W (HB5.out.go h)).1 hL hL
      rw [HLL.out, inputs_self] at this
      exact this)
    have pM := Lib.hid (show ∀ W, Bw W5 W → Calls Try.prog 27 #[.agg #[.int .u32 (sd : Int), .slice a l ca], .agg #[.int .u32 (sd : Int), .slice a l ca], .int .i64 0] W fun e w' => e = .returned (.int .i64 0) ∧ Bw W w' from fun W h => by
      have := meet_any W sd sd hs hs a a ca ca ls ls (HIA.out W (HB5.out.go h)).1 (HIA.out W (HB5.out.go h)).1 0 hL hL hla hla hca hca hna hna (by omega) (by omega)
      rw [HLL.out, meet_self] at this
      exact this)
    have hq := inputsV_form ls os
    have h1 : inputsV ls os = -1 → firstV sd ls sd os = -1 := behind_neg
    have h2 : ∀ n : Nat, inputsV ls os = (n : Int) → firstV sd ls sd os = -1 ∨ (n : Int) < firstV sd ls sd os := fun n => behind_pos
    generalize inputsV ls os = q at *
    generalize firstV sd ls sd os = r at *
    have H1 := Lib.hid h1
    have H2 := Lib.hid h2
    have HQ := Lib.hid hq
    clear h1 h2 hq
    refine wp_region_quiet_below (by kernel_rfl) (by kernel_rfl) ?_
    repeat (quiet_step (fail))
    quiet_step (exact cI _ _)
    repeat (quiet_step (fail))
    quiet_step (exact cF _ _)
    repeat (quiet_step (fail))
    refine wpQuiet_nil ?_
    intro W6 hw'
    have HB6 := Lib.hid (show Bw W5 W6 by
      obtain ⟨⟨dq, oq⟩, rfl⟩ := hw'
      exact below_regrown W5 dq oq)
    clear hw' q0 q1 q2 q3 cI cF
    have HXC := Lib.hid (show ∀ W, Bw W5 W → W.cell? ⟨ta, 0, none⟩ = some (.int .u32 (sd : Int)) ∧ W.cell? ⟨ta, 1, none⟩ = some (.slice a l ca) from fun W h => ⟨(HX5.out.below h HX5.out.lt).cell 0, (HX5.out.below h HX5.out.lt).cell 1⟩)
    obtain ⟨x0, x1⟩ := HXC.out W6 HB6.out
    rcases HQ.out with rfl | ⟨i, rfl, -, -⟩
    · have hr := H1.out rfl
      subst hr
      clear H1 H2 HQ
      go_wp2_with (first
        | (go_at_call 23; (with_reducible refine (pF.out _ HB6.out).mono ?_); rintro e w7 ⟨rfl, b7⟩; have HB7 := Lib.hid (HB6.out.go b7); obtain ⟨x0, x1⟩ := HXC.out w7 HB7.out)
        | (go_at_call 25; (with_reducible refine (pI.out _ HB7.out).mono ?_); rintro e w8 ⟨rfl, b8⟩; have HB8 := Lib.hid (HB7.out.go b8); obtain ⟨x0, x1⟩ := HXC.out w8 HB8.out)
        | (go_at_call 27; (with_reducible refine (pM.out _ HB8.out).mono ?_); rintro e w9 ⟨rfl, b9⟩; have HB9 := Lib.hid (HB8.out.go b9))
        | fail)
      go_ret
      exact ⟨rfl, Below.trans HB5.out (Below.mono HB9.out (Bw.sz HB5.out))⟩
    · rcases H2.out i rfl with rfl | hlt
      · have g0 : ¬ (i : Int) < 0 := by omega
        clear H1 H2 HQ
        go_wp2_with (first
          | (go_at_call 23; (with_reducible refine (pF.out _ HB6.out).mono ?_); rintro e w7 ⟨rfl, b7⟩; have HB7 := Lib.hid (HB6.out.go b7); obtain ⟨x0, x1⟩ := HXC.out w7 HB7.out)
          | (go_at_call 25; (with_reducible refine (pI.out _ HB7.out).mono ?_); rintro e w8 ⟨rfl, b8⟩; have HB8 := Lib.hid (HB7.out.go b8); obtain ⟨x0, x1⟩ := HXC.out w8 HB8.out)
          | (go_at_call 27; (with_reducible refine (pM.out _ HB8.out).mono ?_); rintro e w9 ⟨rfl, b9⟩; have HB9 := Lib.hid (HB8.out.go b9))
          | fail)
        go_ret
        exact ⟨rfl, Below.trans HB5.out (Below.mono HB9.out (Bw.sz HB5.out))⟩
      · have g0 : ¬ (i : Int) < 0 := by omega
        have g1 : ¬ r = -1 := by omega
        have g2 : (r == -1) = false := by simpa using g1
        clear H1 H2 HQ
        go_wp2_with (first
          | (go_at_call 23; (with_reducible refine (pF.out _ HB6.out).mono ?_); rintro e w7 ⟨rfl, b7⟩; have HB7 := Lib.hid (HB6.out.go b7); obtain ⟨x0, x1⟩ := HXC.out w7 HB7.out)
          | (go_at_call 25; (with_reducible refine (pI.out _ HB7.out).mono ?_); rintro e w8 ⟨rfl, b8⟩; have HB8 := Lib.hid (HB7.out.go b8); obtain ⟨x0, x1⟩ := HXC.out w8 HB8.out)
          | (go_at_call 27; (with_reducible refine (pM.out _ HB8.out).mono ?_); rintro e w9 ⟨rfl, b9⟩; have HB9 := Lib.hid (HB8.out.go b9))
          | fail)
        go_ret
        exact ⟨rfl, Below.trans HB5.out (Below.mono HB9.out (Bw.sz HB5.out))⟩
  · have hsf : (decide (l ≤ 100) && decide (m ≤ 100)) = false := by
      rw [Bool.and_eq_false_iff, decide_eq_false_iff_not, decide_eq_false_iff_not]; omega
    have pS := Lib.hid (show Calls Try.prog 19 #[.agg #[.int .u32 (sd : Int), .slice a l ca], .agg #[.int .u32 (so : Int), .slice b m cb]] w2 fun e w' => e = .returned (.bool false) ∧ Bw w2 w' from by
      have := small_any w2 sd so a b l m ca cb
      rw [hsf] at this
      exact this)
    clear hsf
    go_wp2_with fail
    refine pS.out.mono ?_
    rintro e w3 ⟨rfl, b3⟩
    have HB3 := Lib.hid (HB2.out.go b3)
    clear b3 pS
    go_wp2_with fail
    go_ret
    exact ⟨rfl, Below.trans HT.out.below (Below.mono HB3.out HT.out.below.size)⟩
end Go.Proofs.Ytlhoffhagfhbcaa.Dif
