/-
  MeterFlows: the walk.
-/
import Derived.Test.YtmceaffoffemlaaFlowE
namespace Go.Proofs.Ytmceaffoffemlaa.Flow
open Go.RowKit
set_option linter.all false

set_option maxRecDepth 100000 in
set_option maxHeartbeats 8000000 in
theorem flows_law (t : Int) (a : Option Addr) (n c : Nat) (ops : List (Bool × Int)) (w : World) (hops : ORow w a n ops) (hI : ∀ x ∈ ops, -9223372036854775808 ≤ x.2 ∧ x.2 ≤ 9223372036854775807) (hn : n ≤ 9223372036854775807) :
    Calls Try.prog 7 #[.int .i64 t, .slice a n c] w fun e w' => e = .returned (.bool true) ∧ Below w.heap.size w w' := by
  go_enter Try.func7, Try.ntmps7
  go_wp2_with fail
  refine (Met.awake_any w).mono ?_
  rintro e w1 ⟨rfl, hB1⟩
  by_cases ht : t < 1 ∨ 256 < t
  · go_wp2_with fail
    refine (new_flow_no w1 t ht).mono ?_
    rintro e w2 ⟨rfl, rfl⟩
    by_cases t1 : t < 1
    · clear ht
      go_wp2_with fail
      go_ret
      exact ⟨rfl, hB1⟩
    · have t2 : 256 < t := by omega
      clear ht
      go_wp2_with fail
      go_ret
      exact ⟨rfl, hB1⟩
  · obtain ⟨tn, rfl⟩ : ∃ tn : Nat, t = tn := ⟨t.toNat, by omega⟩
    have t1 : 1 ≤ tn := by omega
    have t2 : tn ≤ 256 := by omega
    have t3 : ¬ (tn : Int) < 1 := by omega
    have t4 : ¬ (256 : Int) < (tn : Int) := by omega
    clear ht
    go_wp2_with fail
    refine (new_flow_ok w1 tn t1 t2).mono ?_
    rintro e w2 ⟨rfl, hF, hB2⟩
    go_wp2_with fail
    have hz2 := hB2.size
    have M0 : MJ w (w2.alloc (.cells #[.int .i64 tn, .slice none 0 0, .int .i64 0, .int .i64 0, .int .i64 0] 58)) tn (w1.heap.size + 1) w1.heap.size w2.heap.size (.slice none 0 0) (.slice none 0 0) [] 0 0 0 [] 0 0 0 := by
      have hz := hB1.size
      refine ⟨?_, Blk.new _ _ _, On.nil _ _ _, fun g hg => (by cases hg), by omega, ?_, by omega, ?_⟩
      · have e : last tn [] = [] := by simp [last]
        have := hF.below ((Below.refl _ w2).alloc (Nat.le_refl _) (.cells #[.int .i64 tn, .slice none 0 0, .int .i64 0, .int .i64 0, .int .i64 0] 58))
        rw [e]; exact this
      · rintro k (e | e)
        · omega
        · cases e
      · exact (hB1.trans (hB2.mono hz)).alloc (by omega) _
    clear hF hB1 hB2
    generalize w2.alloc (.cells #[.int .i64 tn, .slice none 0 0, .int .i64 0, .int .i64 0, .int .i64 0] 58) = w3 at *
    generalize w2.heap.size = bx at *
    generalize w1.heap.size = r0 at *
    obtain ⟨f0, hf0⟩ : ∃ f0, f0 = r0 + 1 := ⟨_, rfl⟩
    rw [← hf0] at M0 ⊢
    clear hf0 hz2
    have HO := Lib.hid hops
    have HIO := Lib.hid hI
    have t5 : decide ((tn : Int) < 1) = false := decide_eq_false (by omega)
    have t6 : decide (256 < (tn : Int)) = false := decide_eq_false (by omega)
    rw [t5, t6, Bool.or_false]
    have G0 := GF.zero t1 t2
    clear t1 t2 t3 t4 t5 t6 hops hI
    go_loopw [8] (fun iv wr => ∃ (k : Nat) (sv lv : Value) (L : List Int) (now peak all : Int), k ≤ n ∧ k ≤ 100 ∧ iv = .int .i64 k ∧ MJ w wr tn f0 r0 bx sv lv L now peak all L now peak all ∧ GF tn L now peak all k) (fun iv _ => n - (intOf iv).toNat)
    case atStart => exact ⟨0, _, _, _, _, _, _, by omega, by omega, rfl, M0, G0⟩
    case round =>
      obtain ⟨k, sv, lv, L, now, peak, all, hkn, hk100, rfl, M, G⟩ := hrel
      by_cases hlt : k < n
      · have i1 : (k : Int) < (n : Int) := by omega
        by_cases hlt2 : k < 100
        · have i2 : (k : Int) < 100 := by omega
          have i0 : (0 : Int) ≤ (k : Int) := by omega
          have ho := HO.out
          obtain ⟨x, hx⟩ : ∃ x, ops[k]? = some x := ⟨ops[k]'(by rw [ho.1]; exact hlt), List.getElem?_eq_getElem _⟩
          obtain ⟨gb, ob, rfl, hgb, hcb⟩ := ho.2 (by omega)
          obtain ⟨hc0, hc1⟩ := hcb k x hx
          have hx2 := HIO.out x (List.mem_of_getElem? hx)
          obtain ⟨tk, N⟩ := x
          simp only at hc0 hc1 hx2
          have c0 : wr.cell? ⟨gb, ob + k * 2, none⟩ = some (.bool tk) := (M.B.cell (p := ⟨gb, ob + k * 2, none⟩) hgb).trans hc0
          have c1 : wr.cell? ⟨gb, ob + k * 2 + 1, none⟩ = some (.int .i64 N) := (M.B.cell (p := ⟨gb, ob + k * 2 + 1, none⟩) hgb).trans hc1
          have HC1 := Lib.hid hc1
          have HM0 := Lib.hid M
          have HG0 := Lib.hid G
          clear ho hcb hc0 hc1 hx M G
          cases tk
          · obtain ⟨m, hm⟩ : ∃ m : Int, m = max 0 (min N 1099511627776) := ⟨_, rfl⟩
            have hm0 : 0 ≤ m ∧ m ≤ 1099511627776 := by omega
            obtain ⟨m1, hm1⟩ : ∃ m1 : Int, m1 = max N 0 := ⟨_, rfl⟩
            have e1 : (if N < 0 then 0 else N) = m1 := by rw [hm1]; omega
            have e2 : (if 1099511627776 < m1 then 1099511627776 else m1) = m := by rw [hm1, hm]; omega
            have g1 := HG0.out.pnow
            have g2 := HG0.out.tot
            have g3 := HG0.out.most
            have g4 := sum_nonneg L HG0.out.pos
            have g5 : all ≤ 109951162777600 := by
              have : ((k : Nat) : Int) * 1099511627776 ≤ 100 * 1099511627776 := Int.mul_le_mul_of_nonneg_right (by omega) (by omega)
              omega
            have pA := Lib.hid (add_any wr f0 r0 tn sv L now (last tn L).sum peak all N m HM0.out.F hm ⟨g1, by omega⟩ ⟨by omega, by omega⟩)
            have hw1 : IntKind.i64.wrap (now + m) = now + m := IntWalk.i64_in _ (by omega)
            have hw2 : IntKind.i64.wrap (all + m) = all + m := IntWalk.i64_in _ (by omega)
            have GG := HG0.out.add hm0 (show k + 1 ≤ 100 by omega)
            have HGG := Lib.hid GG
            clear hm hm1 g2 g3 g4 GG
            go_wp2_with fail
            refine pA.out.mono ?_
            rintro e W2 ⟨rfl, F2, T2⟩
            have M2 := HM0.out.flow F2 T2
            clear pA F2 T2 c0 c1
            have c1 : W2.cell? ⟨gb, ob + k * 2 + 1, none⟩ = some (.int .i64 N) := (M2.B.cell (p := ⟨gb, ob + k * 2 + 1, none⟩) hgb).trans HC1.out
            obtain ⟨al5, cl5, rfl, hlc, hcm⟩ := M2.O.slice
            have M5 : MJ w ((W2.setCell ⟨bx, 2, none⟩ (.int .i64 (now + m))).setCell ⟨bx, 4, none⟩ (.int .i64 (all + m))) tn f0 r0 bx sv (.slice al5 L.length cl5) L (now + m) peak (all + m) L (now + m) peak (all + m) :=
              M2.ref (Below.refl _ _) M2.O (fun g hg => .inl hg) (((Touch.refl (fun k => k = bx) W2).setCell (p := ⟨bx, 2, none⟩) (.inl rfl) (.int .i64 (now + m))).setCell (p := ⟨bx, 4, none⟩) (.inl rfl) (.int .i64 (all + m))) ((M2.X.set_ 2 (.int .i64 (now + m))).set_ 4 (.int .i64 (all + m)))
            obtain ⟨⟨d0, d1, d2, d3, d4⟩, fr⟩ := M2.cells
            have z2 := fr 2
            have z4 := fr 4
            have HM5 := Lib.hid M5
            clear M2 M5 fr hlc hcm
            go_upto_region 19 with fail
            have M5 := HM5.out
            have GG := HGG.out
            clear HM5 HGG
            generalize ((W2.setCell ⟨bx, 2, none⟩ (.int .i64 (now + m))).setCell ⟨bx, 4, none⟩ (.int .i64 (all + m))) = W5 at *
            clear d0 d1 d2 d3 d4 z2 z4 hw1 hw2 e1 e2 c1 g1 g5
            obtain ⟨LL, hLL⟩ : ∃ LL, LL = L := ⟨_, rfl⟩
            obtain ⟨NN, hNN⟩ : ∃ NN : Int, NN = now + m := ⟨_, rfl⟩
            obtain ⟨PP, hPP⟩ : ∃ PP : Int, PP = peak := ⟨_, rfl⟩
            obtain ⟨AA, hAA⟩ : ∃ AA : Int, AA = all + m := ⟨_, rfl⟩
            obtain ⟨sv5, hsv5⟩ : ∃ sv5, sv5 = sv := ⟨_, rfl⟩
            rw [← hLL, ← hNN, ← hPP, ← hAA, ← hsv5] at M5
            rw [← hLL, ← hNN, ← hPP, ← hAA] at GG
            clear hLL hNN hPP hAA hsv5
            have HG := Lib.hid GG
            have b1 := last_sum (t := tn) GG.pos
            have b2 := GG.low
            have b3 := GG.high
            have b4 := GG.tot
            have b5 := GG.pnow
            have b6 := GG.len
            have b7 := GG.most
            have b8 := GG.kle
            have b9 : LL.sum ≤ 109951162777600 := by
              have : ((k + 1 : Nat) : Int) * 1099511627776 ≤ 100 * 1099511627776 := Int.mul_le_mul_of_nonneg_right (by omega) (by omega)
              omega
            have bl := last_len tn LL
            obtain ⟨⟨d0, d1, d2, d3, d4⟩, _⟩ := M5.cells
            have pL := ref_last W5 tn al5 cl5 LL NN PP AA (Met.on_row M5.O) GG.pos (by omega) (by omega)
            unfold wv at pL
            have PL := Lib.hid pL
            have HM5 := Lib.hid M5
            clear pL GG M5 b1 b2 b3 b4 b5 b6 b7 b8 b9 bl
            go_wp2_with fail
            refine PL.out.mono ?_
            rintro e W6 ⟨rfl, hb6⟩
            have M6 := HM5.out.after hb6
            clear d0 d1 d2 d3 d4 HM5 PL hb6
            obtain ⟨⟨d0, d1, d2, d3, d4⟩, _⟩ := M6.cells
            have F6 := M6.F
            have GG := HG.out
            have b1 := last_sum (t := tn) GG.pos
            have b2 := GG.low
            have b3 := GG.high
            have b4 := GG.tot
            have b5 := GG.pnow
            have b6 := GG.len
            have b7 := GG.most
            have b8 := GG.kle
            have b9 : LL.sum ≤ 109951162777600 := by
              have : ((k + 1 : Nat) : Int) * 1099511627776 ≤ 100 * 1099511627776 := Int.mul_le_mul_of_nonneg_right (by omega) (by omega)
              omega
            have bl := last_len tn LL
            clear GG b7
            generalize hSU : (last tn LL).sum = SU at *
            generalize hLN : (last tn LL).length = LN at *
            have pSum := Lib.hid (fun n => (sum_any (W6.drewN n) f0 r0 tn sv5 LL NN SU PP AA (F6.below (below_drewN (Below.refl _ _) n))).mono (R' := fun e w'' => e = .returned (.int .i64 SU) ∧ ∃ m, w'' = W6.drewN m) (fun _ _ h => ⟨h.1, _, h.2.symm⟩))
            have pPeak := Lib.hid (fun n => (peak_any (W6.drewN n) f0 r0 tn sv5 LL NN SU PP AA (F6.below (below_drewN (Below.refl _ _) n))).mono (R' := fun e w'' => e = .returned (.int .i64 PP) ∧ ∃ m, w'' = W6.drewN m) (fun _ _ h => ⟨h.1, _, h.2.symm⟩))
            have pAll := Lib.hid (fun n => (all_any (W6.drewN n) f0 r0 tn sv5 LL NN SU PP AA (F6.below (below_drewN (Below.refl _ _) n))).mono (R' := fun e w'' => e = .returned (.int .i64 AA) ∧ ∃ m, w'' = W6.drewN m) (fun _ _ h => ⟨h.1, _, h.2.symm⟩))
            have pMean := Lib.hid (fun n => (mean_any (W6.drewN n) f0 r0 tn sv5 LL NN SU PP AA (F6.below (below_drewN (Below.refl _ _) n)) (by omega) (by omega)).mono (R' := fun e w'' => e = .returned (.int .i64 (Num.floorV SU LN)) ∧ ∃ m, w'' = W6.drewN m) (fun _ _ h => ⟨by rw [← hLN]; exact h.1, by obtain ⟨m, hm⟩ := h.2; exact ⟨n + m, by rw [hm, World.drewN_drewN]⟩⟩))
            have pFl := Lib.hid (fun n => (Num.rfloor_any (W6.drewN n) SU LN (by omega) (by omega) (by omega) (by omega)).mono (R' := fun e w'' => e = .returned (.int .i64 (Num.floorV SU LN)) ∧ ∃ m, w'' = W6.drewN m) (fun _ _ h => ⟨h.1, _, h.2.symm⟩))
            have k1 : ¬ PP < SU := by omega
            have k2 : ¬ AA < PP := by omega
            have HM6 := Lib.hid M6
            clear hSU hLN b1 b2 b3 b4 b5 b6 b8 b9 bl F6 M6
            generalize Num.floorV SU LN = FV at *
            go_upto_region 20 with fail
            go_quiet (first | exact pSum.out _ | exact pPeak.out _ | exact pAll.out _ | exact pMean.out _ | exact pFl.out _)
            go_wp2_with fail
            go_roundw
            case rel => exact ⟨k + 1, _, _, _, _, _, _, by omega, by omega, by go_num, HM6.out.after (below_drewN (Below.refl _ _) _), HG.out⟩
            case measure => simp [intOf]; omega
          · have pT := Lib.hid (tick_any wr f0 r0 tn k sv L now peak all HM0.out.F HG0.out (by omega))
            go_wp2_with fail
            refine pT.out.mono ?_
            rintro e W2 ⟨rfl, sv2, F2, T2⟩
            have M2 := HM0.out.flow F2 T2
            clear pT F2 T2
            obtain ⟨⟨d0, d1, d2, d3, d4⟩, _⟩ := M2.cells
            have hGt := HG0.out.tick (show k + 1 ≤ 100 by omega)
            have hbd : (L ++ [now]).sum ≤ 4611686018427387904 := by
              have h1 := hGt.tot
              have h2 := hGt.most
              have : ((k + 1 : Nat) : Int) * 1099511627776 ≤ 100 * 1099511627776 := Int.mul_le_mul_of_nonneg_right (by omega) (by omega)
              omega
            have pR := Lib.hid (ref_tick W2 tn lv L now peak all M2.O hGt.pos hbd (by have := HG0.out.len; omega))
            unfold wv at pR
            obtain ⟨al, cl, rfl, hlc, hcm⟩ := M2.O.slice
            have HM2 := Lib.hid M2
            have HGt := Lib.hid hGt
            clear M2 hGt hbd
            go_wp2_with fail
            refine pR.out.mono ?_
            rintro e W3 ⟨lv3, rfl, hO3, hF3, hb3⟩
            generalize L ++ [now] = LL at *
            obtain ⟨al5, cl5, rfl, hlc3, hcm3⟩ := hO3.slice
            have GG := HGt.out
            obtain ⟨PP, hPP⟩ : ∃ PP, PP = max peak (last tn LL).sum := ⟨_, rfl⟩
            rw [← hPP] at GG ⊢
            have X3 := HM2.out.X.below hb3 HM2.out.X.lt
            have M5 : MJ w (((((W3.setCell ⟨bx, 0, none⟩ (.int .i64 tn)).setCell ⟨bx, 1, none⟩ (.slice al5 LL.length cl5)).setCell ⟨bx, 2, none⟩ (.int .i64 0)).setCell ⟨bx, 3, none⟩ (.int .i64 PP)).setCell ⟨bx, 4, none⟩ (.int .i64 all)) tn f0 r0 bx sv2 (.slice al5 LL.length cl5) LL 0 PP all LL 0 PP all := by
              have h := HM2.out.ref hb3 hO3 (fun g hg => .inr (hF3 g hg)) (((((Touch.refl (fun k => k = bx) W3).setCell (p := ⟨bx, 0, none⟩) (.inl rfl) (.int .i64 tn)).setCell (p := ⟨bx, 1, none⟩) (.inl rfl) (.slice al5 LL.length cl5)).setCell (p := ⟨bx, 2, none⟩) (.inl rfl) (.int .i64 0)).setCell (p := ⟨bx, 3, none⟩) (.inl rfl) (.int .i64 PP) |>.setCell (p := ⟨bx, 4, none⟩) (.inl rfl) (.int .i64 all)) (((((X3.set_ 0 (.int .i64 tn)).set_ 1 (.slice al5 LL.length cl5)).set_ 2 (.int .i64 0)).set_ 3 (.int .i64 PP)).set_ 4 (.int .i64 all))
              rw [← hPP] at h
              exact h
            clear d0 d1 d2 d3 d4 pR HM2 HGt hO3 hF3 hb3 hPP
            have d0 : W3.cell? ⟨bx, 0, none⟩ = some (.int .i64 tn) := X3.cell 0
            have d1 : W3.cell? ⟨bx, 1, none⟩ = some (.slice al L.length cl) := X3.cell 1
            have d2 : W3.cell? ⟨bx, 2, none⟩ = some (.int .i64 now) := X3.cell 2
            have d3 : W3.cell? ⟨bx, 3, none⟩ = some (.int .i64 peak) := X3.cell 3
            have d4 : W3.cell? ⟨bx, 4, none⟩ = some (.int .i64 all) := X3.cell 4
            have g0 := X3.frozen 0
            have g1 := X3.frozen 1
            have g2 := X3.frozen 2
            have g3 := X3.frozen 3
            have g4 := X3.frozen 4
            have HM5 := Lib.hid M5
            have HGG := Lib.hid GG
            clear X3 M5 GG
            go_upto_region 19 with fail
            have M5 := HM5.out
            have GG := HGG.out
            clear HM5 HGG
            generalize (((((W3.setCell ⟨bx, 0, none⟩ (.int .i64 tn)).setCell ⟨bx, 1, none⟩ (.slice al5 LL.length cl5)).setCell ⟨bx, 2, none⟩ (.int .i64 0)).setCell ⟨bx, 3, none⟩ (.int .i64 PP)).setCell ⟨bx, 4, none⟩ (.int .i64 all)) = W5 at *
            clear d0 d1 d2 d3 d4 g0 g1 g2 g3 g4 hlc hcm
            obtain ⟨NN, hNN⟩ : ∃ NN : Int, NN = 0 := ⟨_, rfl⟩
            rw [← hNN] at M5 GG
            clear hNN
            obtain ⟨sv5, hsv5⟩ : ∃ sv5, sv5 = sv2 := ⟨_, rfl⟩
            rw [← hsv5] at M5
            obtain ⟨AA, hAA⟩ : ∃ AA, AA = all := ⟨_, rfl⟩
            rw [← hAA] at M5 GG
            clear hsv5 hAA
            have HG := Lib.hid GG
            have b1 := last_sum (t := tn) GG.pos
            have b2 := GG.low
            have b3 := GG.high
            have b4 := GG.tot
            have b5 := GG.pnow
            have b6 := GG.len
            have b7 := GG.most
            have b8 := GG.kle
            have b9 : LL.sum ≤ 109951162777600 := by
              have : ((k + 1 : Nat) : Int) * 1099511627776 ≤ 100 * 1099511627776 := Int.mul_le_mul_of_nonneg_right (by omega) (by omega)
              omega
            have bl := last_len tn LL
            obtain ⟨⟨d0, d1, d2, d3, d4⟩, _⟩ := M5.cells
            have pL := ref_last W5 tn al5 cl5 LL NN PP AA (Met.on_row M5.O) GG.pos (by omega) (by omega)
            unfold wv at pL
            have PL := Lib.hid pL
            have HM5 := Lib.hid M5
            clear pL GG M5 b1 b2 b3 b4 b5 b6 b7 b8 b9 bl
            go_wp2_with fail
            refine PL.out.mono ?_
            rintro e W6 ⟨rfl, hb6⟩
            have M6 := HM5.out.after hb6
            clear d0 d1 d2 d3 d4 HM5 PL hb6
            obtain ⟨⟨d0, d1, d2, d3, d4⟩, _⟩ := M6.cells
            have F6 := M6.F
            have GG := HG.out
            have b1 := last_sum (t := tn) GG.pos
            have b2 := GG.low
            have b3 := GG.high
            have b4 := GG.tot
            have b5 := GG.pnow
            have b6 := GG.len
            have b7 := GG.most
            have b8 := GG.kle
            have b9 : LL.sum ≤ 109951162777600 := by
              have : ((k + 1 : Nat) : Int) * 1099511627776 ≤ 100 * 1099511627776 := Int.mul_le_mul_of_nonneg_right (by omega) (by omega)
              omega
            have bl := last_len tn LL
            clear GG b7
            generalize hSU : (last tn LL).sum = SU at *
            generalize hLN : (last tn LL).length = LN at *
            have pSum := Lib.hid (fun n => (sum_any (W6.drewN n) f0 r0 tn sv5 LL NN SU PP AA (F6.below (below_drewN (Below.refl _ _) n))).mono (R' := fun e w'' => e = .returned (.int .i64 SU) ∧ ∃ m, w'' = W6.drewN m) (fun _ _ h => ⟨h.1, _, h.2.symm⟩))
            have pPeak := Lib.hid (fun n => (peak_any (W6.drewN n) f0 r0 tn sv5 LL NN SU PP AA (F6.below (below_drewN (Below.refl _ _) n))).mono (R' := fun e w'' => e = .returned (.int .i64 PP) ∧ ∃ m, w'' = W6.drewN m) (fun _ _ h => ⟨h.1, _, h.2.symm⟩))
            have pAll := Lib.hid (fun n => (all_any (W6.drewN n) f0 r0 tn sv5 LL NN SU PP AA (F6.below (below_drewN (Below.refl _ _) n))).mono (R' := fun e w'' => e = .returned (.int .i64 AA) ∧ ∃ m, w'' = W6.drewN m) (fun _ _ h => ⟨h.1, _, h.2.symm⟩))
            have pMean := Lib.hid (fun n => (mean_any (W6.drewN n) f0 r0 tn sv5 LL NN SU PP AA (F6.below (below_drewN (Below.refl _ _) n)) (by omega) (by omega)).mono (R' := fun e w'' => e = .returned (.int .i64 (Num.floorV SU LN)) ∧ ∃ m, w'' = W6.drewN m) (fun _ _ h => ⟨by rw [← hLN]; exact h.1, by obtain ⟨m, hm⟩ := h.2; exact ⟨n + m, by rw [hm, World.drewN_drewN]⟩⟩))
            have pFl := Lib.hid (fun n => (Num.rfloor_any (W6.drewN n) SU LN (by omega) (by omega) (by omega) (by omega)).mono (R' := fun e w'' => e = .returned (.int .i64 (Num.floorV SU LN)) ∧ ∃ m, w'' = W6.drewN m) (fun _ _ h => ⟨h.1, _, h.2.symm⟩))
            have k1 : ¬ PP < SU := by omega
            have k2 : ¬ AA < PP := by omega
            have HM6 := Lib.hid M6
            clear hSU hLN b1 b2 b3 b4 b5 b6 b8 b9 bl F6 M6
            generalize Num.floorV SU LN = FV at *
            go_upto_region 20 with fail
            go_quiet (first | exact pSum.out _ | exact pPeak.out _ | exact pAll.out _ | exact pMean.out _ | exact pFl.out _)
            go_wp2_with fail
            go_roundw
            case rel => exact ⟨k + 1, _, _, _, _, _, _, by omega, by omega, by go_num, HM6.out.after (below_drewN (Below.refl _ _) _), HG.out⟩
            case measure => simp [intOf]; omega
        · have i2 : ¬ (k : Int) < 100 := by omega
          have hb := M.B
          clear M G
          go_wp2_with fail
          go_ret
          exact ⟨rfl, hb⟩
      · have i1 : ¬ (k : Int) < (n : Int) := by omega
        have hb := M.B
        clear M G
        go_wp2_with fail
        go_ret
        exact ⟨rfl, hb⟩
end Go.Proofs.Ytmceaffoffemlaa.Flow
