/-
  Texts joined: SpWL2, OpenWo. No condition.
-/
import Derived.Test.YtckkpgopddnkiaaBSpectWatches20
import Derived.MapViews
namespace Go.Proofs.Ytckkpgopddnkiaa.Spe
open Go.RowKit Go.Shelf Go.Sort Go.Proofs.Ytckkpgopddnkiaa.Byt Go.Proofs.Ytckkpgopddnkiaa.Gm Go.Proofs.Ytckkpgopddnkiaa.RingE Go.Proofs.Ytckkpgopddnkiaa.Num
set_option linter.all false
attribute [local go_sem] Oper.semAt_some

theorem let_same {C : Array Value} {f : F} (L : Let C f) (wf : Wf f) : ∀ W, (Op.equalIn 10000 53 (.agg C) (.agg C)).run Try.prog W = .ok true W := by
  obtain ⟨e, -, -, -⟩ := L
  subst e
  intro W
  exact st_same W wf wf rfl

structure ExitP (w V : World) (g d sd s : Nat) (k n : Nat) (ta : Option Addr) (tc : Nat) (ra : Option Addr) (rc : Nat) (C : Array Value) : Prop where
  pS : ∀ W, Below V.heap.size V W → Calls Try.prog 22 #[.slice ta n tc, .slice ra n rc] W fun e w' => e = .returned (.bool true) ∧ Below W.heap.size W w'
  pW : ∀ W, Below V.heap.size V W → Calls Try.prog 23 #[.pointer (some ⟨g, 0, none⟩)] W fun e w' => e = .returned (.agg C) ∧ Below W.heap.size W w'
  pR : ∀ W, Below V.heap.size V W → Calls Try.prog 24 #[.int .u32 (sd : Int), .slice ra n rc, .int .i64 (s : Int)] W fun e w' => e = .returned (.agg C) ∧ Below W.heap.size W w'
  KC : ∀ W, Below V.heap.size V W → W.cell? ⟨k, 0, none⟩ = some (.int .u32 (sd : Int)) ∧ W.cell? ⟨k, 1, none⟩ = some (.slice ta n tc) ∧ W.cell? ⟨d, 0, none⟩ = some (.slice ra n rc) ∧ W.cell? ⟨d, 2, none⟩ = some (.int .i64 (s : Int))
  hq : ∀ W, (Op.equalIn 10000 53 (.agg C) (.agg C)).run Try.prog W = .ok true W
  hds : C.size = 66
  lo : Below w.heap.size w V

theorem exit_pack {w wr w5 V : World} {g d sd lag q s : Nat} (hsd : sd < 4294967296) {lv : Value} {ra : Option Addr} {rc n : Nat} {C : Array Value} {ls : List (Nat × Nat)}
    (hX : LX w wr g d sd lv (.slice ra ls.length rc) lag q s C ls ls) (hn : ls.length = n) (hn2 : n ≤ 16384) (hrc : ls.length ≤ rc) (hrm : rc ≤ maxLen) (hrn : ra = none → rc = 0)
    {ta : Option Addr} {tc : Nat} (hon : On w5 34 2 (.slice ta n tc) n (lsC ls)) (b5 : Below wr.heap.size wr w5)
    (hV : V = w5.alloc (.cells #[.int .u32 (sd : Int), .slice ta n tc] 42)) : ExitP w V g d sd s w5.heap.size n ta tc ra rc C := by
  have hX5 := hX.below b5
  have bV : Below w5.heap.size w5 V := by rw [hV]; exact (Below.refl _ w5).alloc (Nat.le_refl _) _
  have hX6 := hX5.below bV
  have hTb : Blk V w5.heap.size 42 #[.int .u32 (sd : Int), .slice ta n tc] := by rw [hV]; exact Blk.new _ _ _
  have hon6 := hon.below bV hon.lt
  have hsle := hX.hs
  have hmaxl : maxLen = 9223372036854775807 := rfl
  have hnf : nOf (s : Int) ls.length = s := by unfold nOf clampV; omega
  have hsp : stAt sd ls (s : Int) = pf sd ls s := by unfold stAt pf; rw [hnf]
  have LD := hX.wt.st
  have wf := (pf_inv hsd ls s).wf (by omega) (by omega) (by omega)
  subst hn
  refine ⟨fun W hb => ?_, fun W hb => wstate_any W g sd _ _ _ _ _ ls (hX6.below hb).wt, fun W hb => ?_, fun W hb => ?_, let_same LD wf, LD.size, hX6.lo⟩
  · have := same31_any W ta ra tc rc ls ls (ls_row (c := tc) (hon6.below hb hon6.lt) hX.ib) (ls_row (hX6.rl.below hb hX6.rl.lt) hX.ib) (by omega) (by omega)
    rw [decide_eq_true (rfl : ls = ls)] at this
    exact this
  · have := rstate_any W sd hsd ra rc ls (s : Int) (ls_row (hX6.rl.below hb hX6.rl.lt) hX.ib) (by omega) hrc (by omega) hrn
    rw [hsp, show stV (pf sd ls s) = .agg C by unfold stV; rw [LD.eq]] at this
    exact this
  · exact ⟨(hTb.below hb hTb.lt).cell 0, (hTb.below hb hTb.lt).cell 1, (hX6.doc.below hb hX6.doc.lt).cell 0, (hX6.doc.below hb hX6.doc.lt).cell 2⟩

set_option maxRecDepth 100000 in
set_option maxHeartbeats 8000000 in
theorem watches_out (w : World) (sd : Nat) (lag : Int) (v : Value) (hlag : lag < 0 ∨ (¬ lag < 0 ∧ 256 < lag)) :
    Calls Try.prog 3 #[.int .u32 (sd : Int), .int .i64 lag, v] w fun e w' => e = .returned (.bool true) ∧ Below w.heap.size w w' := by
  have pA := Lib.hid (fun W => awake31 W)
  have pN := Lib.hid (fun W => wnew_out W sd lag hlag)
  rcases hlag with h | ⟨h, h'⟩
  · have hb : decide (lag < 0) = true := by simp [h]
    go_enter Try.func3, Try.ntmps3
    go_wp2_with fail
    refine (pA.out _).mono ?_
    rintro e w1 ⟨rfl, b1⟩
    go_wp2_with fail
    refine (pN.out _).mono ?_
    rintro e w2 ⟨rfl, rfl⟩
    go_wp2_with fail
    go_ret
    exact ⟨rfl, b1⟩
  · go_enter Try.func3, Try.ntmps3
    go_wp2_with fail
    refine (pA.out _).mono ?_
    rintro e w1 ⟨rfl, b1⟩
    go_wp2_with fail
    refine (pN.out _).mono ?_
    rintro e w2 ⟨rfl, rfl⟩
    go_wp2_with fail
    go_ret
    exact ⟨rfl, b1⟩

section
attribute [local go_sem ↓] append_W
set_option maxRecDepth 100000 in
set_option maxHeartbeats 8000000 in
theorem watches_in (w : World) (sd lag : Nat) (hsd : sd < 4294967296) (hlag : lag ≤ 256) (a : Option Addr) (c : Nat) (ops : List (Int × Nat × Nat × Int)) (hops : WOps w a ops) (hlen : ops.length ≤ 9223372036854775807) :
    Calls Try.prog 3 #[.int .u32 (sd : Int), .int .i64 (lag : Int), .slice a ops.length c] w fun e w' => e = .returned (.bool true) ∧ Below w.heap.size w w' := by
  have pA := Lib.hid (fun W => awake31 W)
  have pN := Lib.hid (fun W => wnew_any W sd (lag : Int) hsd (by omega) (by omega))
  have HOPS := Lib.hid hops
  have i0 : ¬ (lag : Int) < 0 := by omega
  have i1 : ¬ (256 : Int) < (lag : Int) := by omega
  obtain ⟨l, hl⟩ : ∃ l, ops.length = l := ⟨_, rfl⟩
  have HL := Lib.hid hl
  rw [hl]
  rw [hl] at hlen
  clear hops hl
  go_enter Try.func3, Try.ntmps3
  go_wp2_with fail
  refine (pA.out _).mono ?_
  rintro e w1 ⟨rfl, b1⟩
  go_wp2_with fail
  refine (pN.out _).mono ?_
  rintro e w2 ⟨g, C, rfl, hwt, b2, hg⟩
  have HW2 := Lib.hid hwt
  have B2 := Lib.hid (b1.trans (b2.mono b1.size))
  have HG := Lib.hid (Nat.le_trans b1.size hg)
  have Z2 := Lib.hid (Nat.le_trans b1.size b2.size)
  clear hwt b1 b2 hg pA pN
  have i2 : ¬ ((lag : Int) < 0 ∨ 256 < (lag : Int)) := by omega
  go_upto_region 9 with fail
  obtain ⟨W3, hW3⟩ : ∃ W3, W3 = w2.alloc (.cells #[.slice none 0 0, .int .i64 (lag : Int), .int .i64 0, .int .i64 0] 31) := ⟨_, rfl⟩
  rw [← hW3, show decide ((lag : Int) < 0) = false from decide_eq_false (by omega), show decide ((256 : Int) < (lag : Int)) = false from decide_eq_false (by omega)]
  have E3 : LX w W3 g w2.heap.size sd (.slice none 0 0) (.slice none 0 0) lag 0 0 C [] [] := by
    rw [hW3]
    exact ⟨HW2.out.alloc _, Blk.new _ _ _, On.nil _ _ _, B2.out.alloc Z2.out _, HG.out, Z2.out, (fun k h => by cases h), (fun k h => by cases h), Nat.le_refl _, (fun x h => by cases h)⟩
  have HE3 := Lib.hid E3
  obtain ⟨d, hd⟩ : ∃ d, w2.heap.size = d := ⟨_, rfl⟩
  rw [hd] at HE3 ⊢
  have hgd : ¬ g = d := by rw [← hd]; exact E3.gd
  clear hW3 E3 HW2 B2 HG Z2 hd i2 i0 i1
  go_wp2_with fail
  (try simp only [Bool.or_false, Bool.and_true, Bool.or_self, Bool.and_self, Bool.true_and, Bool.false_or])
  go_loopw [10] (fun iv wr => ∃ (i : Nat) (lv rv : Value) (q s : Nat) (C : Array Value) (ls : List (Nat × Nat)), i ≤ 80 ∧ iv = .int .i64 (i : Int) ∧ LX w wr g d sd lv rv lag q s C ls ls ∧ ls.length ≤ i ∧ q ≤ 10 * i) (fun iv _ => 80 - (intOf iv).toNat)
  case atStart => exact ⟨0, _, _, 0, 0, C, [], by omega, rfl, HE3.out, by simp, by simp⟩
  case round =>
    clear HE3
    obtain ⟨i, lv, rv, q, s, C', ls, hi, rfl, hX, hli, hqi⟩ := hrel
    have HX := Lib.hid hX
    by_cases c1 : i < l
    · have c1' : (i : Int) < (l : Int) := by omega
      have c1'' : decide ((i : Int) < (l : Int)) = true := by simp; omega
      by_cases c2 : i < 80
      · have c2' : (i : Int) < 80 := by omega
        obtain ⟨o, ho⟩ : ∃ o, ops[i]? = some o := ⟨_, List.getElem?_eq_getElem (by rw [HL.out]; exact c1)⟩
        obtain ⟨hb1, hb2, hb3, hb4⟩ := HOPS.out.1 o (List.mem_of_getElem? ho)
        obtain ⟨b, off, rfl, hbl, hcs⟩ := HOPS.out.2 (by rw [HL.out]; omega)
        obtain ⟨k0, k1, k2, k3⟩ := hcs i o ho
        obtain ⟨kd, x, y, of⟩ := o
        have HHL := Lib.hid hbl
        have hbl' := (HX.out.lo.cell (p := ⟨b, off + i * 4, none⟩) hbl).trans k0
        have z0 : wr.cell? ⟨b, off + i * 4, none⟩ = some (.int .i64 kd) := (HX.out.lo.cell (p := ⟨b, off + i * 4, none⟩) hbl).trans k0
        have z1 : wr.cell? ⟨b, off + i * 4 + 1, none⟩ = some (.int .u16 (x : Int)) := (HX.out.lo.cell (p := ⟨b, off + i * 4 + 1, none⟩) hbl).trans k1
        have z2 : wr.cell? ⟨b, off + i * 4 + 1 + 1, none⟩ = some (.int .u16 (y : Int)) := (HX.out.lo.cell (p := ⟨b, off + i * 4 + 1 + 1, none⟩) hbl).trans k2
        have z3 : wr.cell? ⟨b, off + i * 4 + 3, none⟩ = some (.int .i64 of) := (HX.out.lo.cell (p := ⟨b, off + i * 4 + 3, none⟩) hbl).trans k3
        simp only at hb1 hb2 hb3 hb4
        have j0 : (0 : Int) ≤ (i : Int) := by omega
        have HO := Lib.hid ho
        clear hbl' hcs k0 k1 k2 k3 hX ho
        by_cases e1 : kd = 1
        · subst e1
          obtain ⟨lv2, rv2, ls2, HY, hl2⟩ : ∃ lv2 rv2 ls2, Hid (LX w wr g d sd lv2 rv2 lag q s C' ls2 ls2) ∧ ls2.length ≤ i + 1 := ⟨lv, rv, ls, HX, by omega⟩
          clear HX hli
          go_wp2_with fail
          (try simp only [Bool.or_false, Bool.and_true, Bool.or_self, Bool.and_self, Bool.true_and, Bool.false_or])
          go_loopw [12] (fun kv wr => ∃ (k q s : Nat) (C : Array Value) (rv2 : Value), k ≤ 10 ∧ kv = .int .i64 (k : Int) ∧ LX w wr g d sd lv2 rv2 lag q s C ls2 ls2 ∧ q ≤ 10 * i + k) (fun kv _ => 10 - (intOf kv).toNat)
          case atStart => exact ⟨0, q, s, C', _, by omega, rfl, HY.out, by omega⟩
          case round =>
            clear HY
            obtain ⟨k, q, s, C', rv2, hk, rfl, hY, hqk⟩ := hrel
            by_cases hkn : (k : Int) < 1
            · obtain ⟨la, lc, rfl, hlc, hcm, hnn⟩ := hY.wt.sl
              obtain ⟨ra, rc, rfl, hrc, hrm⟩ := On.slice hY.rl
              obtain ⟨t, ht⟩ : ∃ t, tkN ls2.length lag s = t := ⟨_, rfl⟩
              have x0 := hY.doc.cell 0
              have x1 := hY.doc.cell 1
              have x2 := hY.doc.cell 2
              have x3 := hY.doc.cell 3
              simp only [List.getElem?_toArray, List.getElem?_cons_zero, List.getElem?_cons_succ] at x0 x1 x2 x3
              have htl := tkN_le ls2.length lag s hY.hs
              rw [ht] at htl
              have pR := Lib.hid (rtick_any wr ra ls2.length rc lag s q (by omega) hY.hs hlag (by omega))
              rw [ht] at pR
              have pT := Lib.hid (fun W (hb : Below wr.heap.size wr W) => wtick_any W g sd _ lag q s C' ls2 (hY.below hb).wt hsd hY.ib hY.hs (by omega) hlag (by omega))
              rw [ht] at pT
              have HY := Lib.hid hY
              clear hY
              go_wp2_with fail
              refine pR.out.mono ?_
              rintro e w5 ⟨rfl, b5⟩
              have hX6 := HY.out.below (b5.alloc b5.size (.cells #[.slice ra ls2.length rc, .int .i64 (lag : Int), .int .i64 ((s + t : Nat) : Int), .int .i64 (wtN q t : Int)] 31))
              have HX6 := Lib.hid hX6
              have hgw : ¬ w5.heap.size = g := by have := HY.out.wt.blk.lt; have := b5.size; omega
              clear hX6
              go_wp2_with fail
              refine (pT.out _ (b5.alloc b5.size _)).mono ?_
              rintro e w7 ⟨rfl, C2, hw7, hT7⟩
              have hN := (Blk.new w5 31 #[.slice ra ls2.length rc, .int .i64 (lag : Int), .int .i64 ((s + t : Nat) : Int), .int .i64 (wtN q t : Int)]).touch hT7 hgw
              have hd7 := HX6.out.doc.touch hT7 (fun e => HX6.out.gd e.symm)
              have y0 := hN.cell 0
              have y1 := hN.cell 1
              have y2 := hN.cell 2
              have y3 := hN.cell 3
              have d0 := hd7.cell 0
              have d1 := hd7.cell 1
              have d2 := hd7.cell 2
              have d3 := hd7.cell 3
              simp only [List.getElem?_toArray, List.getElem?_cons_zero, List.getElem?_cons_succ] at y0 y1 y2 y3 d0 d1 d2 d3
              have f0 := hd7.frozen 0
              have f1 := hd7.frozen 1
              have f2 := hd7.frozen 2
              have f3 := hd7.frozen 3
              have HFIN := Lib.hid (HX6.out.tick hw7 hT7 htl)
              clear hN hd7 hw7 hT7 HX6 HY pT pR b5 x0 x1 x2 x3
              go_wp2_with fail
              go_roundw
              case rel => exact ⟨k + 1, wtN q t, s + t, C2, _, by omega, by go_num, HFIN.out, by have := wtN_le q t; omega⟩
              case measure => simp [intOf]; omega
            · obtain ⟨la, lc, rfl, hlc, hcm, hnn⟩ := hY.wt.sl
              obtain ⟨ra, rc, rfl, hrc, hrm⟩ := On.slice hY.rl
              obtain ⟨n, hn⟩ : ∃ n, ls2.length = n := ⟨_, rfl⟩
              have hfr : (pf sd ls2 s) 0 = (s : Int) := (pf_inv hsd ls2 s).frame
              have c1z := hY.wt.c1
              have c3z := hY.wt.c3
              have c4z := hY.wt.c69
              rw [hfr] at c3z
              have x0 := hY.doc.cell 0
              have x2 := hY.doc.cell 2
              have x3 := hY.doc.cell 3
              simp only [List.getElem?_toArray, List.getElem?_cons_zero, List.getElem?_cons_succ] at x0 x2 x3
              rw [hn] at c1z x0
              have pK := Lib.hid (fun j => knownQ (wr.drewN j) g la n lc c1z)
              have pS := Lib.hid (fun j => shownQ (wr.drewN j) g s c3z)
              have pW := Lib.hid (fun j => waitsQ (wr.drewN j) g q c4z)
              have HY := Lib.hid hY
              clear hY hfr c1z c3z c4z
              go_wp2_with fail
              go_quiet (first | (go_at_call 18; exact Calls.quiet_of_same (pK.out _)) | (go_at_call 19; exact Calls.quiet_of_same (pS.out _)) | (go_at_call 20; exact Calls.quiet_of_same (pW.out _)))
              have HZ := Lib.hid (HY.out.drewN nq)
              clear HY pK pS pW x0 x2 x3
              generalize wr.drewN nq = V at *
              go_wp2_with fail
              go_roundw
              case rel => exact ⟨i + 1, _, _, q, s, C', ls2, by omega, by go_num, HZ.out, by omega, by omega⟩
              case measure => simp [intOf]; omega
        by_cases e2 : kd = 2
        · subst e2
          obtain ⟨lv2, rv2, ls2, HY, hl2⟩ : ∃ lv2 rv2 ls2, Hid (LX w wr g d sd lv2 rv2 lag q s C' ls2 ls2) ∧ ls2.length ≤ i + 1 := ⟨lv, rv, ls, HX, by omega⟩
          clear HX hli e1
          by_cases c10 : (10 : Int) < of
          · go_wp2_with fail
            (try simp only [Bool.or_false, Bool.and_true, Bool.or_self, Bool.and_self, Bool.true_and, Bool.false_or])
            go_loopw [12] (fun kv wr => ∃ (k q s : Nat) (C : Array Value) (rv2 : Value), k ≤ 10 ∧ kv = .int .i64 (k : Int) ∧ LX w wr g d sd lv2 rv2 lag q s C ls2 ls2 ∧ q ≤ 10 * i + k) (fun kv _ => 10 - (intOf kv).toNat)
            case atStart => exact ⟨0, q, s, C', _, by omega, rfl, HY.out, by omega⟩
            case round =>
              clear HY
              obtain ⟨k, q, s, C', rv2, hk, rfl, hY, hqk⟩ := hrel
              by_cases hkn : (k : Int) < 10
              · obtain ⟨la, lc, rfl, hlc, hcm, hnn⟩ := hY.wt.sl
                obtain ⟨ra, rc, rfl, hrc, hrm⟩ := On.slice hY.rl
                obtain ⟨t, ht⟩ : ∃ t, tkN ls2.length lag s = t := ⟨_, rfl⟩
                have x0 := hY.doc.cell 0
                have x1 := hY.doc.cell 1
                have x2 := hY.doc.cell 2
                have x3 := hY.doc.cell 3
                simp only [List.getElem?_toArray, List.getElem?_cons_zero, List.getElem?_cons_succ] at x0 x1 x2 x3
                have htl := tkN_le ls2.length lag s hY.hs
                rw [ht] at htl
                have pR := Lib.hid (rtick_any wr ra ls2.length rc lag s q (by omega) hY.hs hlag (by omega))
                rw [ht] at pR
                have pT := Lib.hid (fun W (hb : Below wr.heap.size wr W) => wtick_any W g sd _ lag q s C' ls2 (hY.below hb).wt hsd hY.ib hY.hs (by omega) hlag (by omega))
                rw [ht] at pT
                have HY := Lib.hid hY
                clear hY
                go_wp2_with fail
                refine pR.out.mono ?_
                rintro e w5 ⟨rfl, b5⟩
                have hX6 := HY.out.below (b5.alloc b5.size (.cells #[.slice ra ls2.length rc, .int .i64 (lag : Int), .int .i64 ((s + t : Nat) : Int), .int .i64 (wtN q t : Int)] 31))
                have HX6 := Lib.hid hX6
                have hgw : ¬ w5.heap.size = g := by have := HY.out.wt.blk.lt; have := b5.size; omega
                clear hX6
                go_wp2_with fail
                refine (pT.out _ (b5.alloc b5.size _)).mono ?_
                rintro e w7 ⟨rfl, C2, hw7, hT7⟩
                have hN := (Blk.new w5 31 #[.slice ra ls2.length rc, .int .i64 (lag : Int), .int .i64 ((s + t : Nat) : Int), .int .i64 (wtN q t : Int)]).touch hT7 hgw
                have hd7 := HX6.out.doc.touch hT7 (fun e => HX6.out.gd e.symm)
                have y0 := hN.cell 0
                have y1 := hN.cell 1
                have y2 := hN.cell 2
                have y3 := hN.cell 3
                have d0 := hd7.cell 0
                have d1 := hd7.cell 1
                have d2 := hd7.cell 2
                have d3 := hd7.cell 3
                simp only [List.getElem?_toArray, List.getElem?_cons_zero, List.getElem?_cons_succ] at y0 y1 y2 y3 d0 d1 d2 d3
                have f0 := hd7.frozen 0
                have f1 := hd7.frozen 1
                have f2 := hd7.frozen 2
                have f3 := hd7.frozen 3
                have HFIN := Lib.hid (HX6.out.tick hw7 hT7 htl)
                clear hN hd7 hw7 hT7 HX6 HY pT pR b5 x0 x1 x2 x3
                go_wp2_with fail
                go_roundw
                case rel => exact ⟨k + 1, wtN q t, s + t, C2, _, by omega, by go_num, HFIN.out, by have := wtN_le q t; omega⟩
                case measure => simp [intOf]; omega
              · obtain ⟨la, lc, rfl, hlc, hcm, hnn⟩ := hY.wt.sl
                obtain ⟨ra, rc, rfl, hrc, hrm⟩ := On.slice hY.rl
                obtain ⟨n, hn⟩ : ∃ n, ls2.length = n := ⟨_, rfl⟩
                have hfr : (pf sd ls2 s) 0 = (s : Int) := (pf_inv hsd ls2 s).frame
                have c1z := hY.wt.c1
                have c3z := hY.wt.c3
                have c4z := hY.wt.c69
                rw [hfr] at c3z
                have x0 := hY.doc.cell 0
                have x2 := hY.doc.cell 2
                have x3 := hY.doc.cell 3
                simp only [List.getElem?_toArray, List.getElem?_cons_zero, List.getElem?_cons_succ] at x0 x2 x3
                rw [hn] at c1z x0
                have pK := Lib.hid (fun j => knownQ (wr.drewN j) g la n lc c1z)
                have pS := Lib.hid (fun j => shownQ (wr.drewN j) g s c3z)
                have pW := Lib.hid (fun j => waitsQ (wr.drewN j) g q c4z)
                have HY := Lib.hid hY
                clear hY hfr c1z c3z c4z
                go_wp2_with fail
                go_quiet (first | (go_at_call 18; exact Calls.quiet_of_same (pK.out _)) | (go_at_call 19; exact Calls.quiet_of_same (pS.out _)) | (go_at_call 20; exact Calls.quiet_of_same (pW.out _)))
                have HZ := Lib.hid (HY.out.drewN nq)
                clear HY pK pS pW x0 x2 x3
                generalize wr.drewN nq = V at *
                go_wp2_with fail
                go_roundw
                case rel => exact ⟨i + 1, _, _, q, s, C', ls2, by omega, by go_num, HZ.out, by omega, by omega⟩
                case measure => simp [intOf]; omega
          · go_wp2_with fail
            (try simp only [Bool.or_false, Bool.and_true, Bool.or_self, Bool.and_self, Bool.true_and, Bool.false_or])
            go_loopw [12] (fun kv wr => ∃ (k q s : Nat) (C : Array Value) (rv2 : Value), k ≤ 10 ∧ kv = .int .i64 (k : Int) ∧ LX w wr g d sd lv2 rv2 lag q s C ls2 ls2 ∧ q ≤ 10 * i + k) (fun kv _ => 10 - (intOf kv).toNat)
            case atStart => exact ⟨0, q, s, C', _, by omega, rfl, HY.out, by omega⟩
            case round =>
              clear HY
              obtain ⟨k, q, s, C', rv2, hk, rfl, hY, hqk⟩ := hrel
              by_cases hkn : (k : Int) < of
              · obtain ⟨la, lc, rfl, hlc, hcm, hnn⟩ := hY.wt.sl
                obtain ⟨ra, rc, rfl, hrc, hrm⟩ := On.slice hY.rl
                obtain ⟨t, ht⟩ : ∃ t, tkN ls2.length lag s = t := ⟨_, rfl⟩
                have x0 := hY.doc.cell 0
                have x1 := hY.doc.cell 1
                have x2 := hY.doc.cell 2
                have x3 := hY.doc.cell 3
                simp only [List.getElem?_toArray, List.getElem?_cons_zero, List.getElem?_cons_succ] at x0 x1 x2 x3
                have htl := tkN_le ls2.length lag s hY.hs
                rw [ht] at htl
                have pR := Lib.hid (rtick_any wr ra ls2.length rc lag s q (by omega) hY.hs hlag (by omega))
                rw [ht] at pR
                have pT := Lib.hid (fun W (hb : Below wr.heap.size wr W) => wtick_any W g sd _ lag q s C' ls2 (hY.below hb).wt hsd hY.ib hY.hs (by omega) hlag (by omega))
                rw [ht] at pT
                have HY := Lib.hid hY
                clear hY
                go_wp2_with fail
                refine pR.out.mono ?_
                rintro e w5 ⟨rfl, b5⟩
                have hX6 := HY.out.below (b5.alloc b5.size (.cells #[.slice ra ls2.length rc, .int .i64 (lag : Int), .int .i64 ((s + t : Nat) : Int), .int .i64 (wtN q t : Int)] 31))
                have HX6 := Lib.hid hX6
                have hgw : ¬ w5.heap.size = g := by have := HY.out.wt.blk.lt; have := b5.size; omega
                clear hX6
                go_wp2_with fail
                refine (pT.out _ (b5.alloc b5.size _)).mono ?_
                rintro e w7 ⟨rfl, C2, hw7, hT7⟩
                have hN := (Blk.new w5 31 #[.slice ra ls2.length rc, .int .i64 (lag : Int), .int .i64 ((s + t : Nat) : Int), .int .i64 (wtN q t : Int)]).touch hT7 hgw
                have hd7 := HX6.out.doc.touch hT7 (fun e => HX6.out.gd e.symm)
                have y0 := hN.cell 0
                have y1 := hN.cell 1
                have y2 := hN.cell 2
                have y3 := hN.cell 3
                have d0 := hd7.cell 0
                have d1 := hd7.cell 1
                have d2 := hd7.cell 2
                have d3 := hd7.cell 3
                simp only [List.getElem?_toArray, List.getElem?_cons_zero, List.getElem?_cons_succ] at y0 y1 y2 y3 d0 d1 d2 d3
                have f0 := hd7.frozen 0
                have f1 := hd7.frozen 1
                have f2 := hd7.frozen 2
                have f3 := hd7.frozen 3
                have HFIN := Lib.hid (HX6.out.tick hw7 hT7 htl)
                clear hN hd7 hw7 hT7 HX6 HY pT pR b5 x0 x1 x2 x3
                go_wp2_with fail
                go_roundw
                case rel => exact ⟨k + 1, wtN q t, s + t, C2, _, by omega, by go_num, HFIN.out, by have := wtN_le q t; omega⟩
                case measure => simp [intOf]; omega
              · obtain ⟨la, lc, rfl, hlc, hcm, hnn⟩ := hY.wt.sl
                obtain ⟨ra, rc, rfl, hrc, hrm⟩ := On.slice hY.rl
                obtain ⟨n, hn⟩ : ∃ n, ls2.length = n := ⟨_, rfl⟩
                have hfr : (pf sd ls2 s) 0 = (s : Int) := (pf_inv hsd ls2 s).frame
                have c1z := hY.wt.c1
                have c3z := hY.wt.c3
                have c4z := hY.wt.c69
                rw [hfr] at c3z
                have x0 := hY.doc.cell 0
                have x2 := hY.doc.cell 2
                have x3 := hY.doc.cell 3
                simp only [List.getElem?_toArray, List.getElem?_cons_zero, List.getElem?_cons_succ] at x0 x2 x3
                rw [hn] at c1z x0
                have pK := Lib.hid (fun j => knownQ (wr.drewN j) g la n lc c1z)
                have pS := Lib.hid (fun j => shownQ (wr.drewN j) g s c3z)
                have pW := Lib.hid (fun j => waitsQ (wr.drewN j) g q c4z)
                have HY := Lib.hid hY
                clear hY hfr c1z c3z c4z
                go_wp2_with fail
                go_quiet (first | (go_at_call 18; exact Calls.quiet_of_same (pK.out _)) | (go_at_call 19; exact Calls.quiet_of_same (pS.out _)) | (go_at_call 20; exact Calls.quiet_of_same (pW.out _)))
                have HZ := Lib.hid (HY.out.drewN nq)
                clear HY pK pS pW x0 x2 x3
                generalize wr.drewN nq = V at *
                go_wp2_with fail
                go_roundw
                case rel => exact ⟨i + 1, _, _, q, s, C', ls2, by omega, by go_num, HZ.out, by omega, by omega⟩
                case measure => simp [intOf]; omega
        by_cases e0 : kd = 0
        · subst e0
          clear e1 e2
          obtain ⟨ra, rc, rfl, hrc, hrm⟩ := On.slice HX.out.rl
          obtain ⟨n, hn⟩ : ∃ n, ls.length = n := ⟨_, rfl⟩
          have pP := Lib.hid (wput_any wr g sd lv lag q C' _ ls HX.out.wt x y hb1 hb2 (by omega))
          rw [hn] at HX
          go_wp2_with fail
          refine pP.out.mono ?_
          rintro e w7 ⟨rfl, lv2, hw7, hT7, ho7⟩
          have hX7 := HX.out.put (p := (x, y)) ⟨hb1, hb2⟩ hw7 hT7 ho7
          obtain ⟨b', off', e, hbl7, hcs⟩ := (HOPS.out.below hX7.lo).2 (by rw [HL.out]; omega)
          cases e
          obtain ⟨-, y1, y2, -⟩ := hcs i _ HO.out
          have x0 := hX7.doc.cell 0
          simp only [List.getElem?_toArray, List.getElem?_cons_zero] at x0
          have hrl := hX7.rl
          rw [hn] at hrl
          obtain ⟨a1, c1a, v1, a2, c2a, v2, r1, r2, b1, T1⟩ := twice1 w7 ra n rc x y ls hn hrl (by omega)
          have bE : Below w7.heap.size w7 ((w7.alloc (.cells #[] 34)).alloc (.cells #[.int .u16 (x : Int), .int .u16 (y : Int)] 34)).drew := (((Below.refl _ w7).alloc (Nat.le_refl _) _).alloc (by simp) _).drew
          have bF : Below w7.heap.size w7 ((w7.alloc (.cells #[.int .u16 (x : Int), .int .u16 (y : Int)] 34)).alloc (.cells #[] 34)).drew := (((Below.refl _ w7).alloc (Nat.le_refl _) _).alloc (by simp) _).drew
          obtain ⟨a3, c3a, v3, a4, c4a, v4, r3, r4, b3, T3⟩ := twice2 w7 ra n rc x y ls hn hrl (by omega) _ w7.heap.size (w7.heap.size + 1) bE (((On.empty w7 _ _).alloc _).drew) (by have := Blk.new (w7.alloc (.cells #[] 34)) 34 #[.int .u16 (x : Int), .int .u16 (y : Int)]; simpa using this.drew) (by omega) (Nat.le_refl _) (((hrl.alloc _).alloc _).drew.src)
          obtain ⟨a5, c5a, v5, a6, c6a, v6, r5, r6, b5, T5⟩ := twice2 w7 ra n rc x y ls hn hrl (by omega) _ (w7.heap.size + 1) w7.heap.size bF (by have := (On.empty (w7.alloc (.cells #[.int .u16 (x : Int), .int .u16 (y : Int)] 34)) 34 2).drew; simpa using this) (((Blk.new w7 _ _).alloc _).drew) (by omega) (by omega) (((hrl.alloc _).alloc _).drew.src)
          have hdl := hX7.doc.lt
          have bA : Below w7.heap.size w7 (w7.alloc (.cells #[] 34)) := (Below.refl _ w7).alloc (Nat.le_refl _) _
          have bB : Below w7.heap.size w7 (w7.alloc (.cells #[.int .u16 (x : Int), .int .u16 (y : Int)] 34)) := (Below.refl _ w7).alloc (Nat.le_refl _) _
          have xA := (bA.cell (p := ⟨d, 0, none⟩) hdl).trans x0
          have xB := (bB.cell (p := ⟨d, 0, none⟩) hdl).trans x0
          have xE : ((w7.alloc (.cells #[] 34)).alloc (.cells #[.int .u16 (x : Int), .int .u16 (y : Int)] 34)).cell? ⟨d, 0, none⟩ = _ := (bE.cell (p := ⟨d, 0, none⟩) hdl).trans x0
          have xF : ((w7.alloc (.cells #[.int .u16 (x : Int), .int .u16 (y : Int)] 34)).alloc (.cells #[] 34)).cell? ⟨d, 0, none⟩ = _ := (bF.cell (p := ⟨d, 0, none⟩) hdl).trans x0
          have yA1 := (bA.cell (p := ⟨b, off + i * 4 + 1, none⟩) hbl7).trans y1
          have yA2 := (bA.cell (p := ⟨b, off + i * 4 + 1 + 1, none⟩) hbl7).trans y2
          have yW1 := (b1.cell (p := ⟨b, off + i * 4 + 1, none⟩) hbl7).trans y1
          have yW2 := (b1.cell (p := ⟨b, off + i * 4 + 1 + 1, none⟩) hbl7).trans y2
          have hv2 := hX7.doc.below T1.2.1 hdl
          have hv4 := hX7.doc.below T3.2.1 hdl
          have hv6 := hX7.doc.below T5.2.1 hdl
          have m2 := hv2.cell 0
          have m4 := hv4.cell 0
          have m6 := hv6.cell 0
          simp only [List.getElem?_toArray, List.getElem?_cons_zero] at m2 m4 m6
          have f2 := hv2.frozen 0
          have f4 := hv4.frozen 0
          have f6 := hv6.frozen 0
          have HF1 := Lib.hid (hX7.twice T1)
          have HF3 := Lib.hid (hX7.twice T3)
          have HF5 := Lib.hid (hX7.twice T5)
          have hl2 : (ls ++ [(x, y)]).length ≤ i + 1 := by simp; omega
          clear hX7 hw7 hT7 ho7 hrl T1 T3 T5 hv2 hv4 hv6 bA bB bE bF b1 b3 b5 pP HX hcs
          go_upto_region 17 with fail
          go_region
          all_goals
            clear r1 r2 r3 r4 r5 r6 x0 y1 y2 xA xB xE xF yA1 yA2 yW1 yW2 m2 m4 m6 f2 f4 f6
            generalize ls ++ [(x, y)] = ls2 at HF1 HF3 HF5 hl2
            go_wp2_with fail
            (try simp only [Bool.or_false, Bool.and_true, Bool.or_self, Bool.and_self, Bool.true_and, Bool.false_or])
            go_loopw [12] (fun kv wr => ∃ (k q s : Nat) (C : Array Value) (rv2 : Value), k ≤ 10 ∧ kv = .int .i64 (k : Int) ∧ LX w wr g d sd lv2 rv2 lag q s C ls2 ls2 ∧ q ≤ 10 * i + k) (fun kv _ => 10 - (intOf kv).toNat)
            case atStart => (first | exact ⟨0, q, s, C', _, by omega, rfl, HF1.out, by omega⟩ | exact ⟨0, q, s, C', _, by omega, rfl, HF3.out, by omega⟩ | exact ⟨0, q, s, C', _, by omega, rfl, HF5.out, by omega⟩)
            case round =>
              clear HF1 HF3 HF5
              obtain ⟨k, q, s, C', rv2, hk, rfl, hY, hqk⟩ := hrel
              by_cases hkn : (k : Int) < 0
              · exact absurd hkn (by omega)
              · obtain ⟨la, lc, rfl, hlc, hcm, hnn⟩ := hY.wt.sl
                obtain ⟨ra, rc, rfl, hrc, hrm⟩ := On.slice hY.rl
                obtain ⟨n, hn⟩ : ∃ n, ls2.length = n := ⟨_, rfl⟩
                have hfr : (pf sd ls2 s) 0 = (s : Int) := (pf_inv hsd ls2 s).frame
                have c1z := hY.wt.c1
                have c3z := hY.wt.c3
                have c4z := hY.wt.c69
                rw [hfr] at c3z
                have x0 := hY.doc.cell 0
                have x2 := hY.doc.cell 2
                have x3 := hY.doc.cell 3
                simp only [List.getElem?_toArray, List.getElem?_cons_zero, List.getElem?_cons_succ] at x0 x2 x3
                rw [hn] at c1z x0
                have pK := Lib.hid (fun j => knownQ (wr.drewN j) g la n lc c1z)
                have pS := Lib.hid (fun j => shownQ (wr.drewN j) g s c3z)
                have pW := Lib.hid (fun j => waitsQ (wr.drewN j) g q c4z)
                have HY := Lib.hid hY
                clear hY hfr c1z c3z c4z
                go_wp2_with fail
                go_quiet (first | (go_at_call 18; exact Calls.quiet_of_same (pK.out _)) | (go_at_call 19; exact Calls.quiet_of_same (pS.out _)) | (go_at_call 20; exact Calls.quiet_of_same (pW.out _)))
                have HZ := Lib.hid (HY.out.drewN nq)
                clear HY pK pS pW x0 x2 x3
                generalize wr.drewN nq = V at *
                go_wp2_with fail
                go_roundw
                case rel => exact ⟨i + 1, _, _, q, s, C', ls2, by omega, by go_num, HZ.out, by omega, by omega⟩
                case measure => simp [intOf]; omega
        · obtain ⟨lv2, rv2, ls2, HY, hl2⟩ : ∃ lv2 rv2 ls2, Hid (LX w wr g d sd lv2 rv2 lag q s C' ls2 ls2) ∧ ls2.length ≤ i + 1 := ⟨lv, rv, ls, HX, by omega⟩
          clear HX hli
          go_wp2_with fail
          (try simp only [Bool.or_false, Bool.and_true, Bool.or_self, Bool.and_self, Bool.true_and, Bool.false_or])
          go_loopw [12] (fun kv wr => ∃ (k q s : Nat) (C : Array Value) (rv2 : Value), k ≤ 10 ∧ kv = .int .i64 (k : Int) ∧ LX w wr g d sd lv2 rv2 lag q s C ls2 ls2 ∧ q ≤ 10 * i + k) (fun kv _ => 10 - (intOf kv).toNat)
          case atStart => exact ⟨0, q, s, C', _, by omega, rfl, HY.out, by omega⟩
          case round =>
            clear HY
            obtain ⟨k, q, s, C', rv2, hk, rfl, hY, hqk⟩ := hrel
            by_cases hkn : (k : Int) < 0
            · exact absurd hkn (by omega)
            · obtain ⟨la, lc, rfl, hlc, hcm, hnn⟩ := hY.wt.sl
              obtain ⟨ra, rc, rfl, hrc, hrm⟩ := On.slice hY.rl
              obtain ⟨n, hn⟩ : ∃ n, ls2.length = n := ⟨_, rfl⟩
              have hfr : (pf sd ls2 s) 0 = (s : Int) := (pf_inv hsd ls2 s).frame
              have c1z := hY.wt.c1
              have c3z := hY.wt.c3
              have c4z := hY.wt.c69
              rw [hfr] at c3z
              have x0 := hY.doc.cell 0
              have x2 := hY.doc.cell 2
              have x3 := hY.doc.cell 3
              simp only [List.getElem?_toArray, List.getElem?_cons_zero, List.getElem?_cons_succ] at x0 x2 x3
              rw [hn] at c1z x0
              have pK := Lib.hid (fun j => knownQ (wr.drewN j) g la n lc c1z)
              have pS := Lib.hid (fun j => shownQ (wr.drewN j) g s c3z)
              have pW := Lib.hid (fun j => waitsQ (wr.drewN j) g q c4z)
              have HY := Lib.hid hY
              clear hY hfr c1z c3z c4z
              go_wp2_with fail
              go_quiet (first | (go_at_call 18; exact Calls.quiet_of_same (pK.out _)) | (go_at_call 19; exact Calls.quiet_of_same (pS.out _)) | (go_at_call 20; exact Calls.quiet_of_same (pW.out _)))
              have HZ := Lib.hid (HY.out.drewN nq)
              clear HY pK pS pW x0 x2 x3
              generalize wr.drewN nq = V at *
              go_wp2_with fail
              go_roundw
              case rel => exact ⟨i + 1, _, _, q, s, C', ls2, by omega, by go_num, HZ.out, by omega, by omega⟩
              case measure => simp [intOf]; omega
      · obtain rfl : i = 80 := by omega
        rw [show ((80 : Nat) : Int) = 80 from rfl] at c1' c1'' ⊢
        clear hX
        obtain ⟨la, lc, rfl, hlc, hcm, hnn⟩ := HX.out.wt.sl
        obtain ⟨ra, rc, rfl, hrc, hrm, hrn⟩ : ∃ a c, rv = .slice a ls.length c ∧ ls.length ≤ c ∧ c ≤ maxLen ∧ (a = none → c = 0) := by
          rcases HX.out.rl.form with ⟨e, h0, _⟩ | ⟨g, cap, e, h1, h2, _⟩
          · exact ⟨none, 0, by rw [e, h0], by omega, by simp [maxLen], fun _ => rfl⟩
          · exact ⟨_, cap, e, h1, h2, fun e => by cases e⟩
        have pT := Lib.hid (wtape_any wr g sd _ _ _ _ _ ls HX.out.wt (by omega))
        obtain ⟨n, hn⟩ : ∃ n, ls.length = n := ⟨_, rfl⟩
        rw [hn] at pT
        have HN := Lib.hid hn
        go_wp2_with fail
        refine pT.out.mono ?_
        rintro e w5 ⟨ta, tc, rfl, hon, b5⟩
        obtain ⟨V, hV⟩ : ∃ V, V = w5.alloc (.cells #[.int .u32 (sd : Int), .slice ta n tc] 42) := ⟨_, rfl⟩
        have EX := exit_pack hsd HX.out HN.out (by have := HN.out; omega) hrc hrm hrn hon b5 hV
        have pS := Lib.hid EX.pS
        have pW := Lib.hid EX.pW
        have pR := Lib.hid EX.pR
        have KC := Lib.hid EX.KC
        have hq := EX.hq
        have hg := guard33
        have hds := EX.hds
        have hVd : Below V.heap.size V V.drew := (Below.refl _ V).drew
        have HLO := Lib.hid EX.lo
        have d0 := KC.out _ hVd
        clear EX
        go_upto_region 32 with fail
        rw [← hV]
        clear hV hon pT b5
        obtain ⟨d0, d1, d2, d3⟩ := d0
        go_region_held3 (fun W => W.cell? ⟨w5.heap.size, 0, none⟩ = some (.int .u32 (sd : Int)) ∧ W.cell? ⟨w5.heap.size, 1, none⟩ = some (.slice ta n tc) ∧ W.cell? ⟨d, 0, none⟩ = some (.slice ra n rc) ∧ W.cell? ⟨d, 2, none⟩ = some (.int .i64 (s : Int))) (first | exact ⟨d0, d1, d2, d3⟩ | exact kA | exact kB | exact kD | fail "no keep")
          (first
            | (go_at_call 22; (with_reducible refine (pS.out _ hVd).mono ?_); rintro e wA ⟨rfl, bA⟩; have BA := hVd.trans (bA.mono hVd.size); have kA := KC.out _ BA)
            | (go_at_call 23; (with_reducible refine (pW.out _ BA).mono ?_); rintro e wB ⟨rfl, bB⟩; have BB := BA.trans (bB.mono BA.size); have kB := KC.out _ BB)
            | (go_at_call 24; (with_reducible refine (pR.out _ BB).mono ?_); rintro e wD ⟨rfl, bD⟩; have BD := BB.trans (bD.mono BB.size); have kD := KC.out _ BD)
            | fail "no arm")
        all_goals
          go_wp2_with fail
          go_ret
          exact ⟨rfl, HLO.out.trans (BD.mono HLO.out.size)⟩
    · obtain ⟨c1', c1''⟩ : ¬ (i : Int) < (l : Int) ∧ decide ((i : Int) < (l : Int)) = false := ⟨by omega, by simp; omega⟩
      clear hX
      obtain ⟨la, lc, rfl, hlc, hcm, hnn⟩ := HX.out.wt.sl
      obtain ⟨ra, rc, rfl, hrc, hrm, hrn⟩ : ∃ a c, rv = .slice a ls.length c ∧ ls.length ≤ c ∧ c ≤ maxLen ∧ (a = none → c = 0) := by
        rcases HX.out.rl.form with ⟨e, h0, _⟩ | ⟨g, cap, e, h1, h2, _⟩
        · exact ⟨none, 0, by rw [e, h0], by omega, by simp [maxLen], fun _ => rfl⟩
        · exact ⟨_, cap, e, h1, h2, fun e => by cases e⟩
      have pT := Lib.hid (wtape_any wr g sd _ _ _ _ _ ls HX.out.wt (by omega))
      obtain ⟨n, hn⟩ : ∃ n, ls.length = n := ⟨_, rfl⟩
      rw [hn] at pT
      have HN := Lib.hid hn
      go_wp2_with fail
      refine pT.out.mono ?_
      rintro e w5 ⟨ta, tc, rfl, hon, b5⟩
      obtain ⟨V, hV⟩ : ∃ V, V = w5.alloc (.cells #[.int .u32 (sd : Int), .slice ta n tc] 42) := ⟨_, rfl⟩
      have EX := exit_pack hsd HX.out HN.out (by have := HN.out; omega) hrc hrm hrn hon b5 hV
      have pS := Lib.hid EX.pS
      have pW := Lib.hid EX.pW
      have pR := Lib.hid EX.pR
      have KC := Lib.hid EX.KC
      have hq := EX.hq
      have hg := guard33
      have hds := EX.hds
      have hVd : Below V.heap.size V V.drew := (Below.refl _ V).drew
      have HLO := Lib.hid EX.lo
      have d0 := KC.out _ hVd
      clear EX
      go_upto_region 32 with fail
      rw [← hV]
      clear hV hon pT b5
      obtain ⟨d0, d1, d2, d3⟩ := d0
      go_region_held3 (fun W => W.cell? ⟨w5.heap.size, 0, none⟩ = some (.int .u32 (sd : Int)) ∧ W.cell? ⟨w5.heap.size, 1, none⟩ = some (.slice ta n tc) ∧ W.cell? ⟨d, 0, none⟩ = some (.slice ra n rc) ∧ W.cell? ⟨d, 2, none⟩ = some (.int .i64 (s : Int))) (first | exact ⟨d0, d1, d2, d3⟩ | exact kA | exact kB | exact kD | fail "no keep")
        (first
          | (go_at_call 22; (with_reducible refine (pS.out _ hVd).mono ?_); rintro e wA ⟨rfl, bA⟩; have BA := hVd.trans (bA.mono hVd.size); have kA := KC.out _ BA)
          | (go_at_call 23; (with_reducible refine (pW.out _ BA).mono ?_); rintro e wB ⟨rfl, bB⟩; have BB := BA.trans (bB.mono BA.size); have kB := KC.out _ BB)
          | (go_at_call 24; (with_reducible refine (pR.out _ BB).mono ?_); rintro e wD ⟨rfl, bD⟩; have BD := BB.trans (bD.mono BB.size); have kD := KC.out _ BD)
          | fail "no arm")
      all_goals
        go_wp2_with fail
        go_ret
        exact ⟨rfl, HLO.out.trans (BD.mono HLO.out.size)⟩
end
end Go.Proofs.Ytckkpgopddnkiaa.Spe
namespace Go.Proofs.Ytckkpgopddnkiaa.Spe
open Go.RowKit Go.WideShapes Go.ChangeShapes Go.ChangeAt Go.Deep Go.Proofs.Ytckkpgopddnkiaa.Eql Go.Proofs.Ytckkpgopddnkiaa.Gm
set_option linter.all false

theorem keyWo : Try.prog.keyTypeAt 4 36 = true := by kernel_rfl
theorem tiledWo : Try.prog.tiled 4 36 = true := by kernel_rfl
theorem litsWo : Try.prog.keyLits 4 36 [.int .i64 0, .int .u16 0, .int .u16 0, .int .i64 0] = some [.int .i64 0, .int .u16 0, .int .u16 0, .int .i64 0] := by kernel_rfl
theorem int_likeWo {x : Lit} {k : IntKind} {n : Int} (h : x.sameKind (.int k n)) : ∃ m, x = .int k m := by
  cases x <;> simp [Lit.sameKind] at h
  subst h
  exact ⟨_, rfl⟩
theorem wo_of_lits {cs : List Value} {l : List Lit} (hk : Try.prog.keyLits 4 36 cs = some l) :
    ∃ o : Int × Nat × Nat × Int, cs = [.int .i64 o.1, .int .u16 (o.2.1 : Int), .int .u16 (o.2.2.1 : Int), .int .i64 o.2.2.2] ∧ o.2.1 < 65536 ∧ o.2.2.1 < 65536 ∧ (-9223372036854775808 ≤ o.1 ∧ o.1 ≤ 9223372036854775807) ∧ (-9223372036854775808 ≤ o.2.2.2 ∧ o.2.2.2 ≤ 9223372036854775807) := by
  have e := cells_of_lits 4 _ tiledWo _ _ _ hk
  have hal := keyLits_alike hk litsWo
  have w := keyLits_wf hk
  match l, hal, e, w with
  | [x0, x1, x2, x3], ⟨h0, h1, h2, h3, _⟩, e, w =>
    obtain ⟨a0, rfl⟩ := int_likeWo h0
    obtain ⟨a1, rfl⟩ := int_likeWo h1
    obtain ⟨a2, rfl⟩ := int_likeWo h2
    obtain ⟨a3, rfl⟩ := int_likeWo h3
    have b1 := I2.bounds_u16 (w (.int .u16 a1) (by simp))
    have b2 := I2.bounds_u16 (w (.int .u16 a2) (by simp))
    obtain ⟨m1, rfl⟩ : ∃ m1 : Nat, a1 = m1 := ⟨a1.toNat, by omega⟩
    obtain ⟨m2, rfl⟩ : ∃ m2 : Nat, a2 = m2 := ⟨a2.toNat, by omega⟩
    exact ⟨(a0, m1, m2, a3), e, show m1 < 65536 by omega, show m2 < 65536 by omega, bounds_i64 (w (.int .i64 a0) (by simp)), bounds_i64 (w (.int .i64 a3) (by simp))⟩
set_option maxRecDepth 100000 in
theorem open_wops {H : Type} {enc : TypeId × Value → H} {W : World} {base : Nat} {spare : Nat → Bool} {held : Bool} {t : TypeId} {r : Reach} {b0 : Nat} {v : Value} {d : DataW H} {p : List MemPlace}
    (ht : Try.prog.underlying t = some (.slice 36)) (hv : Value.okWide Try.prog W r b0 t v) (h : DataW.Trod enc Try.prog W base spare held t v d p) :
    ∃ a cap, ∃ ops : List (Int × Nat × Nat × Int), v = .slice a ops.length cap ∧ WOps W a ops ∧ ops.length ≤ cap ∧ cap ≤ maxLen := by
  have hc4 : Try.prog.cellsOf 36 = 4 := by kernel_rfl
  obtain ⟨a0, len0, cap0, rfl⟩ := okWide_slice ht hv
  obtain ⟨fuel, hf⟩ := h
  rcases open_slice ht hf with ⟨hcs, _⟩ | ⟨a, len, cap, m, n, D, Pl, hcs, hb, hl, hm, hmm, _, hi⟩
  · simp [Value.cells] at hcs
    obtain ⟨rfl, rfl, rfl⟩ := hcs
    exact ⟨none, 0, [], rfl, ⟨fun x hx => by simp at hx, fun h => by simp at h⟩, by simp, by simp [maxLen]⟩
  · simp [Value.cells] at hcs
    obtain ⟨rfl, rfl, rfl⟩ := hcs
    have hlm : len0 ≤ m := by rw [hmm]; split <;> omega
    have each : ∀ i, i < len0 → ∃ o : Int × Nat × Nat × Int, (W.cell? (a.add (i * 4 + 0)) = some (.int .i64 o.1) ∧ W.cell? (a.add (i * 4 + 1)) = some (.int .u16 (o.2.1 : Int)) ∧ W.cell? (a.add (i * 4 + 2)) = some (.int .u16 (o.2.2.1 : Int)) ∧ W.cell? (a.add (i * 4 + 3)) = some (.int .i64 o.2.2.2)) ∧
        (o.2.1 < 65536 ∧ o.2.2.1 < 65536 ∧ (-9223372036854775808 ≤ o.1 ∧ o.1 ≤ 9223372036854775807) ∧ (-9223372036854775808 ≤ o.2.2.2 ∧ o.2.2.2 ≤ 9223372036854775807)) := by
      intro i hil
      obtain ⟨cs', hcc, ht'⟩ := hi i (by omega)
      rw [hc4] at hcc
      obtain ⟨hk, _⟩ := keyLits_of_trod 4 _ keyWo _ _ _ ht'
      obtain ⟨o, e, hw⟩ := wo_of_lits hk
      obtain ⟨_, hcl2, hat⟩ := World.cells?_some hcc
      have g : ∀ k, k < 4 → W.cell? (a.add (i * 4 + k)) = ([.int .i64 o.1, .int .u16 (o.2.1 : Int), .int .u16 (o.2.2.1 : Int), .int .i64 o.2.2.2] : List Value)[k]? := fun k hk => by
        have g := hat k hk
        rw [← Go.Deep.add_add, g, e]
      exact ⟨o, ⟨g 0 (by omega), g 1 (by omega), g 2 (by omega), g 3 (by omega)⟩, hw⟩
    obtain ⟨ops, hol, hops⟩ := I2.list_of len0 each
    subst hol
    refine ⟨some a, cap0, ops, rfl, ⟨fun x hx => ?_, fun hp => ?_⟩, hl, hm⟩
    · obtain ⟨i, hi⟩ := List.getElem?_of_mem hx
      exact (hops i x hi).2
    · obtain ⟨b, off, spot⟩ := a
      obtain ⟨x, hx⟩ : ∃ x, ops[0]? = some x := ⟨ops[0]'(by omega), by simp⟩
      have c0 := (hops 0 x hx).1.1
      have hspot : spot = none := by simpa [Addr.add] using World.cell?_spot c0
      subst hspot
      have hadd : ∀ j, (⟨b, off, none⟩ : Addr).add j = ⟨b, off + j, none⟩ := fun j => by unfold Addr.add; split <;> simp_all
      refine ⟨b, off, rfl, ?_, fun j y hy => ?_⟩
      · have := World.block_lt_of_cell? W _ c0
        rw [hadd] at this
        exact this
      · have := (hops j y hy).1
        simp only [hadd, ← Nat.add_assoc, Nat.add_zero] at this
        exact ⟨this.1, this.2.1, this.2.2.1, this.2.2.2⟩

theorem watches_law (w : World) (sd lag : Int) (h0 : 0 ≤ sd ∧ sd < 4294967296) (a : Option Addr) (c : Nat) (ops : List (Int × Nat × Nat × Int)) (hops : WOps w a ops) (hl : ops.length ≤ c) (hc : c ≤ maxLen) :
    Calls Try.prog 3 #[.int .u32 sd, .int .i64 lag, .slice a ops.length c] w fun e w' => e = .returned (.bool true) ∧ Below w.heap.size w w' := by
  obtain ⟨s, rfl⟩ : ∃ s : Nat, sd = s := ⟨sd.toNat, by omega⟩
  by_cases hg : lag < 0 ∨ (¬ lag < 0 ∧ 256 < lag)
  · exact watches_out w s lag _ hg
  · obtain ⟨l, rfl⟩ : ∃ l : Nat, lag = l := ⟨lag.toNat, by omega⟩
    exact watches_in w s l (by omega) (by omega) a c ops hops (by simp only [maxLen] at hc; omega)
end Go.Proofs.Ytckkpgopddnkiaa.Spe
