/-
  Texts joined: Times, Gw, Gf, Gs, Gfire, Ghurt. No condition.
-/
import Derived.Test.YtckkpgopddnkiaaGreatBRp4
import Derived.BigRegion
import Derived.StillTailTactics
import Derived.Lib.QuietBelow
namespace Go.Proofs.YtckkpgopddnkiaaGreat.Num
open Go.RowKit
set_option linter.all false

def rowF (i x n k : Nat) : Nat → Nat := fun j => if j < i + k then dig (65536 ^ i * (x * n)) j else 0
theorem rowF_succ (i x n k j : Nat) : upd (rowF i x n k) (i + k) ((x * dig n k + mcar x n k) % 65536) j = rowF i x n (k + 1) j := by
  rw [mul_dig]
  unfold upd rowF
  by_cases h : j = i + k
  · subst h
    rw [if_pos rfl, if_pos (by omega), dig_mul_pow]
  · rw [if_neg h]
    by_cases h2 : j < i + k
    · rw [if_pos h2, if_pos (by omega)]
    · rw [if_neg h2, if_neg (by omega)]
theorem rowF_end (i x n j : Nat) (hx : x < 65536) (hn : n < 65536 ^ 4) : upd (rowF i x n 4) (i + 4) (mcar x n 4) j = dig (65536 ^ i * (x * n)) j := by
  have hc : mcar x n 4 = dig (x * n) 4 := (mcar_end x n 4 hn).resolve_right (fun h => h hx)
  rw [hc]
  unfold upd rowF
  by_cases h : j = i + 4
  · subst h
    rw [if_pos rfl, dig_mul_pow]
  · rw [if_neg h]
    by_cases h2 : j < i + 4
    · rw [if_pos h2]
    · rw [if_neg h2]
      have hxn : x * n < 65536 ^ 5 := Nat.lt_of_lt_of_le (Nat.mul_lt_mul'' hx hn) (by decide)
      have hp : 65536 ^ i * (x * n) < 65536 ^ (i + 5) := by rw [Nat.pow_add]; exact Nat.mul_lt_mul_of_pos_left hxn (pow_pos' i)
      exact (dig_big' hp (by omega)).symm
theorem wcs_one (s : Bool) (f : Nat → Nat) : (wcs s f).all (·.oneCell') = true := by simp [wcs, Value.oneCell']
theorem wcs_size (s : Bool) (f : Nat → Nat) : (wcs s f).size = 10 := rfl
theorem infoW : (Tryz.prog.info? 150).map (·.size) = some 10 := by kernel_rfl
theorem acc_succ (m n i : Nat) : m % 65536 ^ i * n + 65536 ^ i * (dig m i * n) = m % 65536 ^ (i + 1) * n := by
  rw [mod_succ, Nat.add_mul, Nat.mul_assoc]

set_option maxRecDepth 100000 in
set_option maxHeartbeats 4000000 in
theorem times_any (w : World) (sa sb : Bool) (m n : Nat) (hm : m < 65536 ^ 4) (hn : n < 65536 ^ 4) :
    Calls Tryz.prog 102 #[wv sa m, wv sb n] w fun e w' => e = .returned (wv (sa != sb) (m * n)) ∧ Below w.heap.size w w' := by
  obtain ⟨W1, hW1, ha, hb, hc, hB1, hz1⟩ := boxes2 w sa sb (dig m) (dig n)
  have pP := Lib.hid (fun W m n => plus_any W false false m n)
  unfold wv at pP
  unfold wv
  unfold wz at hW1
  have HM := Lib.hid hm
  have HN := Lib.hid hn
  clear hm hn
  have hz1' : W1.heap.size = w.heap.size + 1 + 1 + 1 := by omega
  go_enter Tryz.func102, Tryz.ntmps102
  go_upto_region 1 with fail
  rw [← hW1]
  have HZ := Lib.hid hz1'
  clear hW1 hz1 hz1'
  obtain ⟨bo, hbo⟩ : ∃ bo, bo = w.heap.size + 1 + 1 + 1 := ⟨_, rfl⟩
  have hd := WB.zero W1
  have hB2 : Below w.heap.size w (W1.alloc (.cells wz 150)) := hB1.alloc hB1.size _
  have ha2 := WB.alloc ha (.cells wz 150)
  have hb2 := WB.alloc hb (.cells wz 150)
  have hc2 := WB.alloc hc (.cells wz 150)
  rw [HZ.out] at hd
  have hzz : (W1.alloc (.cells wz 150)).heap.size = w.heap.size + 4 := by simp [HZ.out]
  have HZZ := Lib.hid hzz
  unfold wz at hd hB2 ha2 hb2 hc2 HZZ
  clear ha hb hc hB1 hzz
  go_upto_region 2 with fail
  rw [HZ.out]
  generalize W1.alloc _ = W2 at *
  go_wp2_with fail
  go_loopw [6] (fun iv wr => ∃ i : Nat, i ≤ 4 ∧ iv = .int .i64 i ∧ WB wr w.heap.size sa (dig m) ∧ WB wr (w.heap.size + 1) sb (dig n) ∧ WB wr (w.heap.size + 1 + 1) false (fun _ => 0) ∧ WB wr (w.heap.size + 1 + 1 + 1) false (dig (m % 65536 ^ i * n)) ∧ w.heap.size + 4 ≤ wr.heap.size ∧ Below w.heap.size w wr) (fun iv _ => 4 - (intOf iv).toNat)
  case atStart => exact ⟨0, by omega, rfl, ha2, hb2, hc2, hd.congr (fun j _ => by simp [Nat.mod_one, dig]), by rw [HZZ.out]; omega, hB2⟩
  case round =>
    clear ha2 hb2 hc2 hd hB2 HZZ HZ
    obtain ⟨i, hi, rfl, ha, hb, hc, hd, hz, hB⟩ := hrel
    obtain ⟨wo, rfl⟩ : ∃ wo : World, wo = wr := ⟨_, rfl⟩
    by_cases hlt : i < 4
    · have i1 : (0 : Int) ≤ (i : Int) := by omega
      have i2 : (i : Int) < 4 := by omega
      have HE := Lib.hid (acc_succ m n i)
      have hx := dig_lt m i
      have cX := ha.at_ (i := i) (by omega)
      have HC := Lib.hid (rowF_end i (dig m i) n · hx HN.out)
      have HS := Lib.hid (rowF_succ i (dig m i) n)
      have HM := Lib.hid (mul_car (dig m i) n)
      have HML := Lib.hid (fun k => mcar_le (dig m i) n k hx)
      have hm0 := mcar_zero (dig m i) n
      have H0 := Lib.hid hm0
      have hr := WB.zero wo
      have ha2 := WB.alloc ha (.cells wz 150)
      have hb2 := WB.alloc hb (.cells wz 150)
      have hc2 := WB.alloc hc (.cells wz 150)
      have hd2 := WB.alloc hd (.cells wz 150)
      have hB2 : Below w.heap.size w (wo.alloc (.cells wz 150)) := hB.alloc hB.size _
      have hz2 : (wo.alloc (.cells wz 150)).heap.size = wo.heap.size + 1 := by simp
      have HZ2 := Lib.hid hz2
      clear ha hb hc hd hB hz2 cX hm0
      unfold wz at *
      obtain ⟨x, hxx⟩ : ∃ x, dig m i = x := ⟨_, rfl⟩
      rw [hxx] at HC HS HM HML H0 hx HE
      have HX := Lib.hid hxx
      clear hxx
      go_upto_region 6 with fail
      generalize wo.heap.size = r at *
      generalize wo.alloc _ = W3 at *
      have hr0 : WB W3 r false (rowF i x n 0) := hr.congr (fun j _ => by
        unfold rowF
        split
        · rw [dig_mul_pow_lo _ _ _ (by omega)]
        · rfl)
      clear hr
      go_wp2_with fail
      go_loopw [8, 9] (fun cv jv wr => ∃ k : Nat, k ≤ 4 ∧ jv = .int .i64 k ∧ cv = .int .u64 (mcar x n k : Nat) ∧ WB wr w.heap.size sa (dig m) ∧ WB wr (w.heap.size + 1) sb (dig n) ∧ WB wr (w.heap.size + 1 + 1) false (fun _ => 0) ∧ WB wr (w.heap.size + 1 + 1 + 1) false (dig (m % 65536 ^ i * n)) ∧ WB wr r false (rowF i x n k) ∧ r + 1 ≤ wr.heap.size ∧ Below w.heap.size w wr) (fun _ jv _ => 4 - (intOf jv).toNat)
      case atStart => exact ⟨0, by omega, rfl, by rw [H0.out]; rfl, ha2, hb2, hc2, hd2, hr0, by rw [HZ2.out]; omega, hB2⟩
      case round =>
        clear ha2 hb2 hc2 hd2 hB2 HZ2 hr0
        obtain ⟨k, hk, rfl, rfl, ha, hb, hc, hd, hr, hz3, hB⟩ := hrel
        by_cases hlk : k < 4
        · have c1 := ha.at_ (i := i) (by omega)
          rw [HX.out] at c1
          have c2 := hb.at_ (i := k) (by omega)
          have f1 := hr.fr (1 + (i + k))
          have c3 := hr.at_ (i := i + k) (by omega)
          have l2 := dig_lt n k
          have l3 := HML.out k
          have a1 := Lib.hid (HM.out k)
          have a2 := Lib.hid (fun j => HS.out k j)
          have k1 : (0 : Int) ≤ (k : Int) := by omega
          have k2 : (k : Int) < 4 := by omega
          generalize dig n k = y at *
          generalize hcc : mcar x n k = c at *
          clear hcc
          have hxy : x * y ≤ 65535 * 65535 := Nat.mul_le_mul (by omega) (by omega)
          obtain ⟨p, hp⟩ : ∃ p, p = x * y := ⟨_, rfl⟩
          rw [← hp] at hxy a1 a2
          have q1 : IntKind.u64.wrap ((x : Int) * (y : Int)) = (p : Int) := by rw [hp, ← Int.natCast_mul, IntWalk.u64_in _ (by rw [hp] at hxy; omega)]
          clear hp
          have q2 : IntKind.u64.wrap ((p : Int) + (c : Int)) = (p : Int) + (c : Int) := IntWalk.u64_in _ (by omega)
          go_wp2_with fail
          go_quiet (fail)
          clear q1 q2
          go_wp2_with fail
          go_roundw
          case rel =>
            refine ⟨k + 1, by omega, by go_num, by rw [← a1.out]; go_num, ?_, ?_, ?_, ?_, ?_, ?_, ?_⟩
            · exact (ha.drewN nq).far (by simp; omega) _
            · exact (hb.drewN nq).far (by simp; omega) _
            · exact (hc.drewN nq).far (by simp; omega) _
            · exact (hd.drewN nq).far (by simp; omega) _
            · have := ((hr.drewN nq).set_ (i := i + k) (by omega) ((p + c) % 65536)).congr (fun j _ => a2.out j)
              simpa using this
            · simpa using hz3
            · exact (below_drewN hB nq).setCell (by simp; omega) _
          case measure => simp [intOf]; omega
        · obtain rfl : k = 4 := by omega
          have f1 := hr.fr (1 + (i + 4))
          have c3 := hr.at_ (i := i + 4) (by omega)
          have l3 := HML.out 4
          have a2 := Lib.hid HC.out
          generalize hcc : mcar x n 4 = c at *
          clear hcc
          go_upto_region 14 with fail
          have hr' := (hr.set_ (i := i + 4) (by omega) c).congr (fun j _ => a2.out j)
          have ha' := ha.far (p := ⟨r, 1 + (i + 4), none⟩) (by simp; omega) (.int .u64 c)
          have hb' := hb.far (p := ⟨r, 1 + (i + 4), none⟩) (by simp; omega) (.int .u64 c)
          have hc' := hc.far (p := ⟨r, 1 + (i + 4), none⟩) (by simp; omega) (.int .u64 c)
          have hd' := hd.far (p := ⟨r, 1 + (i + 4), none⟩) (by simp; omega) (.int .u64 c)
          have hB' : Below w.heap.size w (wr.setCell ⟨r, 1 + (i + 4), none⟩ (.int .u64 c)) := hB.setCell (by simp; omega) _
          have hz4 : r + 1 ≤ (wr.setCell ⟨r, 1 + (i + 4), none⟩ (.int .u64 c)).heap.size := by simpa using hz3
          clear ha hb hc hd hr hB f1 c3 hz3
          generalize wr.setCell ⟨r, 1 + (i + 4), none⟩ (.int .u64 c) = W4 at *
          have hi5 : Hid (i + 1 ≤ 4) := Lib.hid (by omega)
          go_wp2_with (first | (refine wpList_load_blk (by rfl) 150 _ (by rfl) (w.heap.size + 1 + 1 + 1) (by rfl) _ _ _ hd' Tryz.underlying150 (by rfl) infoW ?_) | (refine wpList_load_blk (by rfl) 150 _ (by rfl) r (by rfl) _ _ _ hr' Tryz.underlying150 (by rfl) infoW ?_))
          refine (pP.out _ _ _).mono ?_
          rintro e W5 ⟨rfl, hB5⟩
          have ha5 := ha'.below hB5 ha'.lt
          have hb5 := hb'.below hB5 hb'.lt
          have hc5 := hc'.below hB5 hc'.lt
          have hd5 := hd'.below hB5 hd'.lt
          have hz5 := hB5.size
          have HB5 := Lib.hid (hB'.trans (hB5.mono hB'.size))
          clear ha' hb' hc' hd' hr' hB' hB5
          go_wp2_with (refine wpList_store_blk (by rfl) 150 _ _ (by rfl) (w.heap.size + 1 + 1 + 1) (wcs false (dig (m % 65536 ^ i * n + 65536 ^ i * (x * n)))) (by rfl) (by rfl) _ _ hd5 infoW (by rfl) (wcs_one _ _) ?_; intro W6 hd6 ht6)
          rw [HE.out] at hd6
          have hz6 := ht6.size
          go_roundw
          case rel => exact ⟨i + 1, by omega, by go_num, Blk.touch ha5 ht6 (by omega), Blk.touch hb5 ht6 (by omega), Blk.touch hc5 ht6 (by omega), hd6, by omega, HB5.out.trans (ht6.below HB5.out.size (fun k hk => by omega))⟩
          case measure => simp [intOf]; omega
    · obtain rfl : i = 4 := by omega
      rw [Nat.mod_eq_of_lt HM.out] at hd
      have hs : (sa != sb) = (!(sa == sb)) := rfl
      have k0 := ha.cells.1
      have k1 := hb.cells.1
      have hd' := setb wo _ false (sa != sb) _ hd
      have f0 := hd.fr 0
      have d0 := hd.cells.1
      have hc' := hc.far (p := ⟨w.heap.size + 1 + 1 + 1, 0, none⟩) (by simp) (.bool (sa != sb))
      have hB' : Below w.heap.size w (wo.setCell ⟨w.heap.size + 1 + 1 + 1, 0, none⟩ (.bool (sa != sb))) := hB.setCell (by simp; omega) _
      clear ha hb hc hd hB hs
      obtain ⟨sx, hsx⟩ : ∃ sx, sx = (sa != sb) := ⟨_, rfl⟩
      have hsx' : (!(sa == sb)) = sx := by rw [hsx]; rfl
      rw [← hsx] at hd' hc' hB'
      have HSX := Lib.hid hsx
      clear hsx
      go_upto_region 16 with fail
      clear hsx'
      generalize wo.setCell ⟨w.heap.size + 1 + 1 + 1, 0, none⟩ (.bool sx) = W4 at *
      clear f0 d0 k0 k1
      go_wp2_with (first | (refine wpList_load_blk (by rfl) 150 _ (by rfl) (w.heap.size + 1 + 1 + 1) (by rfl) _ _ _ hd' Tryz.underlying150 (by rfl) infoW ?_) | (refine wpList_store_blk (by rfl) 150 _ _ (by rfl) (w.heap.size + 1 + 1) (wcs sx (dig (m * n))) (by rfl) (by rfl) _ _ hc' infoW (by rfl) (wcs_one _ _) ?_; intro W6 hd6 ht6))
      refine bodyPost_ret (v := .agg (wcs sx (dig (m * n)))) (results_blk Tryz.results102 _ _ (w.heap.size + 1 + 1) _ _ _ (by rfl) hd6 Tryz.underlying150 (by rfl) infoW) rfl ⟨by rw [HSX.out], ?_⟩
      exact hB'.trans (ht6.below hB'.size (fun k hk => by omega))

def partHi (s : Bool) (m : Nat) : Int := if s = true ∧ m ≠ 0 then -1 else 0
def partLo (s : Bool) (m : Nat) : Int := if s = true ∧ m ≠ 0 then 18446744073709551616 - (m : Int) else m
set_option maxRecDepth 100000 in
set_option maxHeartbeats 4000000 in
theorem parts_any (w : World) (s : Bool) (m : Nat) (hm : m < 18446744073709551616) :
    Calls Tryz.prog 101 #[wv s m] w fun e w' => e = .returned (.tuple #[.int .i64 (partHi s m), .int .u64 (partLo s m)]) ∧ Below w.heap.size w w' := by
  obtain ⟨W1, hW1, ha, hB⟩ : ∃ W1, W1 = w.alloc (.cells (wcs s (dig m)) 150) ∧ WB W1 w.heap.size s (dig m) ∧ Below w.heap.size w W1 := ⟨_, rfl, WB.new _ _ _, (Below.refl _ w).alloc (Nat.le_refl _) _⟩
  have k0 := ha.cells.1
  have HH := Lib.hid (fun j => dig_big' (n := m) (i := 4) (j := j) hm)
  unfold wv
  go_enter Tryz.func101, Tryz.ntmps101
  go_upto_region 1 with fail
  rw [← hW1]
  clear hW1
  go_wp2_with fail
  go_loopw [4, 5, 6] (fun hv lv iv wr => ∃ k : Nat, k ≤ 4 ∧ iv = .int .i64 ((k : Int) - 1) ∧ hv = .int .u64 0 ∧ lv = .int .u64 ((m / 65536 ^ k : Nat) : Int) ∧ wr = W1) (fun _ _ iv _ => (intOf iv + 1).toNat)
  case atStart => exact ⟨4, by omega, rfl, rfl, by rw [show m / 65536 ^ 4 = 0 from Nat.div_eq_of_lt hm]; rfl, rfl⟩
  case round =>
    obtain ⟨k, hk, rfl, rfl, rfl, rfl⟩ := hrel
    match k, hk with
    | 0, _ =>
      rw [show (((0 : Nat) : Int) - 1) = -1 from rfl, show m / 65536 ^ 0 = m by simp]
      have E1 := Lib.hid (show partHi s m = if s = true ∧ m ≠ 0 then -1 else 0 from rfl)
      have E2 := Lib.hid (show partLo s m = if s = true ∧ m ≠ 0 then 18446744073709551616 - (m : Int) else m from rfl)
      cases s
      · go_wp2_with fail
        go_ret2
        exact ⟨by rw [E1.out, E2.out]; simp, hB⟩
      · by_cases h0 : m = 0
        · subst h0
          go_wp2_with fail
          go_ret2
          exact ⟨by rw [E1.out, E2.out]; simp, hB⟩
        · have h0' : ¬ ((m : Int) = 0) := by omega
          have hw : IntKind.u64.wrap (-(m : Int)) = 18446744073709551616 - (m : Int) := by simp [IntKind.wrap, IntKind.bits, IntKind.signed]; omega
          have HF := Lib.hid h0
          clear h0
          go_wp2_with fail
          go_ret2
          exact ⟨by rw [E1.out, E2.out]; simp [HF.out], hB⟩
    | j + 1, hj4 =>
      have hj : j < 4 := by omega
      rw [show (((j + 1 : Nat) : Int) - 1) = (j : Int) by omega]
      have c1 := ha.at_ (i := j) (by omega)
      have c2 := ha.at_ (i := j + 4) (by omega)
      rw [HH.out (j + 4) (by omega)] at c2
      have l1 := dig_lt m j
      have hs1 := div_succ m j
      have hle : m / 65536 ^ j ≤ m := Nat.div_le_self _ _
      have i1 : (0 : Int) ≤ (j : Int) := by omega
      have i2 : (j : Int) < 4 := by omega
      have HS := Lib.hid hs1
      generalize dig m j = x at c1 l1 hs1 HS
      generalize m / 65536 ^ (j + 1) = t at hs1 HS ⊢
      have b1 : x + 65536 * t < 18446744073709551616 := by omega
      clear hs1 hle
      have q1 : IntKind.u64.wrap ((t : Int) * 65536) = (t : Int) * 65536 := IntWalk.u64_in _ (by omega)
      have q2 : IntKind.u64.wrap ((t : Int) * 65536 + (x : Int)) = (t : Int) * 65536 + (x : Int) := IntWalk.u64_in _ (by omega)
      go_wp2_with fail
      go_roundw
      case rel => exact ⟨j, by omega, by simp <;> rfl, by first | rfl | simp, by rw [HS.out]; simp [Int.mul_comm, Int.add_comm], trivial⟩
      case measure => simp [intOf] <;> omega
theorem dec_natAbs (v : Int) : sv (decide (v < 0)) v.natAbs = v := sv_of v
end Go.Proofs.YtckkpgopddnkiaaGreat.Num
namespace Go.Proofs.YtckkpgopddnkiaaGreat.Gm
open Go.RowKit Go.Proofs.YtckkpgopddnkiaaGreat.Num
set_option maxRecDepth 100000 in
set_option maxHeartbeats 2000000 in
theorem rmul_any (w : World) (v : Int) (h0 : -196608 ≤ v) (h1 : v ≤ 196608) :
    Calls Tryz.prog 88 #[.int .i64 v, .int .i64 57344] w fun e w' => e = .returned (.int .i64 (mulV v)) ∧ Below w.heap.size w w' := by
  have pA := Lib.hid (of_any w v (by omega) (by omega))
  have pB := Lib.hid (fun w => of_any w 57344 (by omega) (by omega))
  have hv : v.natAbs ≤ 196608 := by omega
  have pC := Lib.hid (fun w => times_any w (decide (v < 0)) (decide ((57344 : Int) < 0)) v.natAbs (Int.natAbs 57344) (by omega) (by decide))
  have pD := Lib.hid (fun w => parts_any w (decide (v < 0) != decide ((57344 : Int) < 0)) (v.natAbs * Int.natAbs 57344) (by simp; omega))
  have e1 : (decide (v < 0) != decide ((57344 : Int) < 0)) = decide (v < 0) := by simp
  have e2 : Int.natAbs 57344 = 57344 := rfl
  rw [e1] at pC pD
  by_cases c : v < 0
  · have E1 := Lib.hid (show partHi (decide (v < 0)) (v.natAbs * Int.natAbs 57344) = -1 by unfold partHi; rw [if_pos ⟨by simpa using c, by rw [e2]; omega⟩])
    have E2 := Lib.hid (show partLo (decide (v < 0)) (v.natAbs * Int.natAbs 57344) = v * 57344 + 18446744073709551616 by unfold partLo; rw [if_pos ⟨by simpa using c, by rw [e2]; omega⟩, e2]; omega)
    obtain ⟨t, ht⟩ : ∃ t : Nat, (t : Int) = (v * 57344 + 18446744073709551616) / 65536 := ⟨((v * 57344 + 18446744073709551616) / 65536).toNat, by omega⟩
    have t1 : t < 281474976710656 := by omega
    have E := Lib.hid (show mulV v = -281474976710656 + (t : Int) by unfold mulV; omega)
    obtain ⟨l, hl⟩ : ∃ l : Int, l = v * 57344 + 18446744073709551616 := ⟨_, rfl⟩
    rw [← hl] at ht E2
    have q1 : l / 65536 = (t : Int) := ht.symm
    have l0 : 0 ≤ l := by omega
    have q2 : IntKind.i64.wrap (t : Int) = (t : Int) := IntWalk.i64_in _ (by omega)
    clear ht hl e1 e2
    generalize decide (v < 0) = s at *
    generalize v.natAbs = m at *
    generalize Int.natAbs 57344 = k at *
    generalize decide ((57344 : Int) < 0) = s2 at *
    rw [E1.out, E2.out] at pD
    go_enter Tryz.func88, Tryz.ntmps88
    go_wp2_with fail
    refine pA.out.mono ?_
    rintro e w1 ⟨rfl, hb1⟩
    go_wp2_with fail
    refine (pB.out _).mono ?_
    rintro e w2 ⟨rfl, hb2⟩
    go_wp2_with fail
    refine (pC.out _).mono ?_
    rintro e w3 ⟨rfl, hb3⟩
    go_wp2_with fail
    refine (pD.out _).mono ?_
    rintro e w4 ⟨rfl, hb4⟩
    go_wp2_with fail
    go_ret
    have s1 := hb1.size
    have s2 := hb2.size
    have s3 := hb3.size
    exact ⟨ret_int E.out.symm, ((hb1.trans (hb2.mono (by omega))).trans (hb3.mono (by omega))).trans (hb4.mono (by omega))⟩
  · have E1 := Lib.hid (show partHi (decide (v < 0)) (v.natAbs * Int.natAbs 57344) = 0 by unfold partHi; rw [if_neg (by simp; omega)])
    have E2 := Lib.hid (show partLo (decide (v < 0)) (v.natAbs * Int.natAbs 57344) = v * 57344 by unfold partLo; rw [if_neg (by simp; omega), e2]; omega)
    obtain ⟨t, ht⟩ : ∃ t : Nat, (t : Int) = v * 57344 / 65536 := ⟨(v * 57344 / 65536).toNat, by omega⟩
    have t1 : t < 281474976710656 := by omega
    have E := Lib.hid (show mulV v = (t : Int) by unfold mulV; omega)
    obtain ⟨l, hl⟩ : ∃ l : Int, l = v * 57344 := ⟨_, rfl⟩
    rw [← hl] at ht E2
    have q1 : l / 65536 = (t : Int) := ht.symm
    have l0 : 0 ≤ l := by omega
    have q2 : IntKind.i64.wrap (t : Int) = (t : Int) := IntWalk.i64_in _ (by omega)
    clear ht hl e1 e2
    generalize decide (v < 0) = s at *
    generalize v.natAbs = m at *
    generalize Int.natAbs 57344 = k at *
    generalize decide ((57344 : Int) < 0) = s2 at *
    rw [E1.out, E2.out] at pD
    go_enter Tryz.func88, Tryz.ntmps88
    go_wp2_with fail
    refine pA.out.mono ?_
    rintro e w1 ⟨rfl, hb1⟩
    go_wp2_with fail
    refine (pB.out _).mono ?_
    rintro e w2 ⟨rfl, hb2⟩
    go_wp2_with fail
    refine (pC.out _).mono ?_
    rintro e w3 ⟨rfl, hb3⟩
    go_wp2_with fail
    refine (pD.out _).mono ?_
    rintro e w4 ⟨rfl, hb4⟩
    go_wp2_with fail
    go_ret
    have s1 := hb1.size
    have s2 := hb2.size
    have s3 := hb3.size
    exact ⟨ret_int E.out.symm, ((hb1.trans (hb2.mono (by omega))).trans (hb3.mono (by omega))).trans (hb4.mono (by omega))⟩
end Go.Proofs.YtckkpgopddnkiaaGreat.Gm
namespace Go.Proofs.YtckkpgopddnkiaaGreat.Gm
open Go.RowKit Go.Proofs.YtckkpgopddnkiaaGreat.Num
set_option linter.all false

/-- A body's cells. -/
structure BodyAt (w : World) (g o : Nat) (b : Body) : Prop where
  x : w.cell? ⟨g, o, none⟩ = some (.int .i64 b.x)
  y : w.cell? ⟨g, o + 1, none⟩ = some (.int .i64 b.y)
  vx : w.cell? ⟨g, o + 2, none⟩ = some (.int .i64 b.vx)
  vy : w.cell? ⟨g, o + 3, none⟩ = some (.int .i64 b.vy)
  life : w.cell? ⟨g, o + 4, none⟩ = some (.int .i64 b.life)
  cool : w.cell? ⟨g, o + 5, none⟩ = some (.int .i64 b.cool)
  facing : w.cell? ⟨g, o + 6, none⟩ = some (.int .i64 b.facing)
  fr : ∀ j, w.frozen? ⟨g, j, none⟩ = false
theorem SB.bodyAt {w : World} {g : Nat} {t : TypeId} {f : F} (h : SB w g t f) {i : Nat} (hi : i < 2) : BodyAt w g (2 + i * 7) (bod f (2 + i * 7)) :=
  ⟨h.body hi (j := 0) (by omega), h.body hi (j := 1) (by omega), h.body hi (j := 2) (by omega), h.body hi (j := 3) (by omega), h.body hi (j := 4) (by omega), h.body hi (j := 5) (by omega), h.body hi (j := 6) (by omega), fun j => h.fr j⟩
/-- A state in which one body is this one. -/
def BS (w : World) (g : Nat) (t : TypeId) (f : F) (i : Nat) (b : Body) : Prop := SB w g t (setB f (2 + i * 7) b)
theorem setB_same (f : F) (o : Nat) : setB f o (bod f o) = f := by
  funext k
  unfold setB bod put
  (repeat' split) <;> (first | rfl | (subst_vars; rfl))
section
variable {w w' : World} {g : Nat} {t : TypeId} {f : F} {i : Nat} {b : Body}
theorem BS.of (h : SB w g t f) (i : Nat) : BS w g t f i (bod f (2 + i * 7)) := by unfold BS; rw [setB_same]; exact h
theorem BS.cells (h : BS w g t f i b) (hi : i < 2) : BodyAt w g (2 + i * 7) b := by
  have := SB.bodyAt h hi
  rwa [setB_bod] at this
theorem BS.drew (h : BS w g t f i b) : BS w.drew g t f i b := h
theorem BS.drewN (h : BS w g t f i b) (n : Nat) : BS (w.drewN n) g t f i b := h
theorem BS.x (h : BS w g t f i b) (hi : i < 2) (v : Int) : BS (w.setCell ⟨g, 2 + i * 7, none⟩ (.int .i64 v)) g t f i { b with x := v } := by
  have := SB.setInt h (j := 2 + i * 7) (by omega) (by omega) (by omega) v
  unfold BS
  have e : put (setB f (2 + i * 7) b) (2 + i * 7) v = setB f (2 + i * 7) { b with x := v } := by
    funext k; unfold setB put; (repeat' split) <;> (first | rfl | omega)
  rwa [e] at this
theorem BS.y (h : BS w g t f i b) (hi : i < 2) (v : Int) : BS (w.setCell ⟨g, 2 + i * 7 + 1, none⟩ (.int .i64 v)) g t f i { b with y := v } := by
  have := SB.setInt h (j := 2 + i * 7 + 1) (by omega) (by omega) (by omega) v
  unfold BS
  have e : put (setB f (2 + i * 7) b) (2 + i * 7 + 1) v = setB f (2 + i * 7) { b with y := v } := by
    funext k; unfold setB put; (repeat' split) <;> (first | rfl | omega)
  rwa [e] at this
theorem BS.vx (h : BS w g t f i b) (hi : i < 2) (v : Int) : BS (w.setCell ⟨g, 2 + i * 7 + 2, none⟩ (.int .i64 v)) g t f i { b with vx := v } := by
  have := SB.setInt h (j := 2 + i * 7 + 2) (by omega) (by omega) (by omega) v
  unfold BS
  have e : put (setB f (2 + i * 7) b) (2 + i * 7 + 2) v = setB f (2 + i * 7) { b with vx := v } := by
    funext k; unfold setB put; (repeat' split) <;> (first | rfl | omega)
  rwa [e] at this
theorem BS.vy (h : BS w g t f i b) (hi : i < 2) (v : Int) : BS (w.setCell ⟨g, 2 + i * 7 + 3, none⟩ (.int .i64 v)) g t f i { b with vy := v } := by
  have := SB.setInt h (j := 2 + i * 7 + 3) (by omega) (by omega) (by omega) v
  unfold BS
  have e : put (setB f (2 + i * 7) b) (2 + i * 7 + 3) v = setB f (2 + i * 7) { b with vy := v } := by
    funext k; unfold setB put; (repeat' split) <;> (first | rfl | omega)
  rwa [e] at this
theorem BS.facing (h : BS w g t f i b) (hi : i < 2) (v : Int) : BS (w.setCell ⟨g, 2 + i * 7 + 6, none⟩ (.int .i64 v)) g t f i { b with facing := v } := by
  have := SB.setInt h (j := 2 + i * 7 + 6) (by omega) (by omega) (by omega) v
  unfold BS
  have e : put (setB f (2 + i * 7) b) (2 + i * 7 + 6) v = setB f (2 + i * 7) { b with facing := v } := by
    funext k; unfold setB put; (repeat' split) <;> (first | rfl | omega)
  rwa [e] at this
end
abbrev TG (g : Nat) (w w' : World) : Prop := Touch (fun k => k = g) w w'
theorem TG.set {w w' : World} {g : Nat} (h : TG g w w') (o : Nat) (v : Value) : TG g w (w'.setCell ⟨g, o, none⟩ v) := h.setCell (.inl rfl) v

set_option maxRecDepth 100000 in
set_option maxHeartbeats 2000000 in
theorem walk_any (w : World) (g : Nat) (t : TypeId) (f : F) (i n : Nat) (b : Body) (hi : i < 2) (hn : n < 65536) (hS : BS w g t f i b) (hv0 : -196608 ≤ b.vx) (hv1 : b.vx ≤ 196608) :
    Calls Tryz.prog 82 #[.pointer (some ⟨g, 2 + i * 7, none⟩), .int .u16 n] w fun e w' => e = .returned (.tuple #[]) ∧ BS w' g t f i (walkB b n) ∧ TG g w w' := by
  have a1 := and1 hn
  have a2 := and2 hn
  obtain ⟨-, -, c2, -, -, -, c6, fr⟩ := hS.cells hi
  have f2 := fr (2 + i * 7 + 2)
  have f6 := fr (2 + i * 7 + 6)
  have HS := Lib.hid hS
  have HI := Lib.hid hi
  clear hS fr hi
  by_cases h1 : n % 2 = n / 2 % 2
  · have E := Lib.hid (show walkB b n = { b with vx := mulV b.vx } by unfold walkB; rw [if_pos h1])
    have pM := Lib.hid (fun w => fmul_any w b.vx hv0 hv1)
    have hz : n % 2 = 0 ∨ n % 2 = 1 := by omega
    rcases hz with h | h
    all_goals
      have h' : n / 2 % 2 = _ := h1.symm.trans h
      rw [h] at a1
      rw [h'] at a2
      simp only [Nat.zero_mul, Nat.one_mul] at a2
      have a1' : bits .and .u16 (n : Int) 1 = _ := a1
      have a2' : bits .and .u16 (n : Int) 2 = _ := a2
      clear a1 a2 h h' h1
      go_enter Tryz.func82, Tryz.ntmps82
      go_wp2_with fail
      refine (pM.out _).mono ?_
      rintro e w' ⟨rfl, rfl⟩
      go_wp2_with fail
      refine bodyPost_ret (results_none rfl _ _ _) rfl ⟨rfl, ?_⟩
      rw [E.out]
      exact ⟨HS.out.vx HI.out _, TG.set (Touch.refl _ _) _ _⟩
  · have hz : (n % 2 = 1 ∧ n / 2 % 2 = 0) ∨ (n % 2 = 0 ∧ n / 2 % 2 = 1) := by omega
    have hh0 := hold_bd (b.vx + -16384)
    have hh1 := hold_bd (b.vx + 16384)
    rcases hz with ⟨h, h'⟩ | ⟨h, h'⟩
    · have E := Lib.hid (show walkB b n = { b with facing := -1, vx := clampV (hold (b.vx + -16384)) (-196608) 196608 } by unfold walkB; rw [if_neg h1, if_pos h])
      rw [h] at a1
      rw [h'] at a2
      simp only [Nat.zero_mul, Nat.one_mul] at a2
      have a1' : bits .and .u16 (n : Int) 1 = _ := a1
      have a2' : bits .and .u16 (n : Int) 2 = _ := a2
      have pA := Lib.hid (fun w => wadd_any w b.vx (-16384) (by omega) (by omega) (by omega) (by omega))
      generalize hold (b.vx + -16384) = q at *
      have pC := Lib.hid (fun w => clamp_any w q (-196608) 196608)
      clear a1 a2 h h' h1
      go_enter Tryz.func82, Tryz.ntmps82
      go_wp2_with fail
      refine (pA.out _).mono ?_
      rintro e w' ⟨rfl, rfl⟩
      go_wp2_with fail
      refine (pC.out _).mono ?_
      rintro e w' ⟨rfl, rfl⟩
      go_wp2_with fail
      go_end0
      rw [E.out]
      exact ⟨rfl, (HS.out.facing HI.out _).vx HI.out _, TG.set (TG.set (Touch.refl _ _) _ _) _ _⟩
    · have E := Lib.hid (show walkB b n = { b with facing := 1, vx := clampV (hold (b.vx + 16384)) (-196608) 196608 } by unfold walkB; rw [if_neg h1, if_neg (by omega)])
      rw [h] at a1
      rw [h'] at a2
      simp only [Nat.zero_mul, Nat.one_mul] at a2
      have a1' : bits .and .u16 (n : Int) 1 = _ := a1
      have a2' : bits .and .u16 (n : Int) 2 = _ := a2
      have pA := Lib.hid (fun w => wadd_any w b.vx 16384 (by omega) (by omega) (by omega) (by omega))
      generalize hold (b.vx + 16384) = q at *
      have pC := Lib.hid (fun w => clamp_any w q (-196608) 196608)
      clear a1 a2 h h' h1
      go_enter Tryz.func82, Tryz.ntmps82
      go_wp2_with fail
      refine (pA.out _).mono ?_
      rintro e w' ⟨rfl, rfl⟩
      go_wp2_with fail
      refine (pC.out _).mono ?_
      rintro e w' ⟨rfl, rfl⟩
      go_wp2_with fail
      go_end0
      rw [E.out]
      exact ⟨rfl, (HS.out.facing HI.out _).vx HI.out _, TG.set (TG.set (Touch.refl _ _) _ _) _ _⟩

end Go.Proofs.YtckkpgopddnkiaaGreat.Gm
namespace Go.Proofs.YtckkpgopddnkiaaGreat.Gm
open Go.RowKit Go.Proofs.YtckkpgopddnkiaaGreat.Num
set_option linter.all false

set_option maxRecDepth 100000 in
set_option maxHeartbeats 4000000 in
theorem fall_any (w : World) (g : Nat) (t : TypeId) (f : F) (i n : Nat) (b : Body) (hi : i < 2) (hn : n < 65536) (hS : BS w g t f i b) (hb : BodyOk b) :
    Calls Tryz.prog 83 #[.pointer (some ⟨g, 2 + i * 7, none⟩), .int .u16 n] w fun e w' => e = .returned (.tuple #[]) ∧ BS w' g t f i (fallB b n) ∧ TG g w w' := by
  have a4 := and4 hn
  have HI := Lib.hid hi
  have hj := jumpV_in hb n
  have hd := dropV_in hb n
  have hy0 := hb.y0
  have hy1 := hb.y1
  have HJ : (n / 4 % 2 = 1 ∧ (b.y == 0) = true ∧ Hid (jumpV b n = 327680)) ∨ (n / 4 % 2 = 1 ∧ (b.y == 0) = false ∧ Hid (jumpV b n = b.vy)) ∨ (n / 4 % 2 = 0 ∧ Hid (jumpV b n = b.vy)) := by
    unfold jumpV
    by_cases c : n / 4 % 2 = 1
    · by_cases c2 : b.y = 0
      · exact .inl ⟨c, by simpa using c2, Lib.hid (by rw [if_pos ⟨c, c2⟩])⟩
      · exact .inr (.inl ⟨c, by simpa using c2, Lib.hid (by rw [if_neg (fun h => c2 h.2)])⟩)
    · exact .inr (.inr ⟨by omega, Lib.hid (by rw [if_neg (fun h => c h.1)])⟩)
  have HD : (0 < b.y ∧ Hid (dropV b n = hold (jumpV b n - 21845))) ∨ (¬ 0 < b.y ∧ (jumpV b n == 0) = false ∧ Hid (dropV b n = hold (jumpV b n - 21845))) ∨ (¬ 0 < b.y ∧ (jumpV b n == 0) = true ∧ Hid (dropV b n = jumpV b n)) := by
    unfold dropV
    by_cases c : 0 < b.y
    · exact .inl ⟨c, Lib.hid (by rw [if_pos (.inl c)])⟩
    · by_cases c2 : jumpV b n = 0
      · exact .inr (.inr ⟨c, by simpa using c2, Lib.hid (by rw [if_neg (by omega)])⟩)
      · exact .inr (.inl ⟨c, by simpa using c2, Lib.hid (by rw [if_pos (.inr c2)])⟩)
  have HF := Lib.hid (show fallB b n = if hold (b.y + dropV b n) ≤ 0 then { b with y := 0, vy := 0 } else { b with y := hold (b.y + dropV b n), vy := dropV b n } from rfl)
  generalize fallB b n = fb at *
  generalize dropV b n = dv at *
  generalize jumpV b n = jv at *
  have HD' := Lib.hid HD
  clear HD hb
  obtain ⟨-, c1, -, c3, -, -, -, fr⟩ := hS.cells hi
  have f3 := fr (2 + i * 7 + 3)
  have HS := Lib.hid hS
  clear hS fr hi
  have K : ∃ (q : Bool) (q2 : Bool), True := ⟨true, true, trivial⟩
  clear K
  rcases HJ with ⟨h, h2, E⟩ | ⟨h, h2, E⟩ | ⟨h, E⟩
  all_goals
    rw [h] at a4
    simp only [Nat.zero_mul, Nat.one_mul] at a4
    have a4' : bits .and .u16 (n : Int) 4 = _ := a4
    clear a4 h
    go_enter Tryz.func83, Tryz.ntmps83
    go_upto_region 2 with fail
    first
      | (have B1 : BS (w.setCell ⟨g, 2 + i * 7 + 3, none⟩ (.int .i64 327680)) g t f i { b with vy := jv } := (by rw [E.out]; with_reducible exact HS.out.vy HI.out 327680)
         have T1 : TG g w (w.setCell ⟨g, 2 + i * 7 + 3, none⟩ (.int .i64 327680)) := TG.set (Touch.refl _ _) _ _
         generalize w.setCell ⟨g, 2 + i * 7 + 3, none⟩ (.int .i64 327680) = W1 at *)
      | (have B1 : BS w g t f i { b with vy := jv } := (by rw [E.out]; with_reducible exact HS.out)
         have T1 : TG g w w := Touch.refl _ _)
    clear c1 c3 f3 a4'
    obtain ⟨-, y1, -, v1, -, -, -, fr1⟩ := B1.cells HI.out
    have f3 := fr1 (2 + i * 7 + 3)
    have f1 := fr1 (2 + i * 7 + 1)
    have pS := Lib.hid (fun w => wsub_any w jv 21845 hj.1 hj.2 (by omega) (by omega))
    have B1' := Lib.hid B1
    clear B1 fr1
    have HD2 := HD'.out
    clear HD'
    rcases HD2 with ⟨hy, E2⟩ | ⟨hy, hz, E2⟩ | ⟨hy, hz, E2⟩
    · try (exfalso; simp only [beq_iff_eq, beq_eq_false_iff_ne, ne_eq] at h2; omega)
      all_goals
        go_wp2_with fail
        refine (pS.out _).mono ?_
        rintro e w' ⟨rfl, rfl⟩
        go_upto_region 4 with fail
        have B2 := B1'.out.vy HI.out (hold (jv - 21845))
        have T2 := TG.set T1 (2 + i * 7 + 3) (.int .i64 (hold (jv - 21845)))
        have E3 := Lib.hid E2.out.symm
        generalize hold (jv - 21845) = vv at *
        first
          | generalize W1.setCell ⟨g, 2 + i * 7 + 3, none⟩ (.int .i64 vv) = W2 at *
          | generalize w.setCell ⟨g, 2 + i * 7 + 3, none⟩ (.int .i64 vv) = W2 at *
        have HF2 := HF
        rw [← E3.out] at HF2 hd
        clear T1 B1' pS E E2 hy HF E3 y1 v1 f1 f3
        obtain ⟨-, y1, -, v1, -, -, -, fr1⟩ := B2.cells HI.out
        have f3 := fr1 (2 + i * 7 + 3)
        have f1 := fr1 (2 + i * 7 + 1)
        clear fr1
        have hA : ∀ W, Calls Tryz.prog 97 #[.int .i64 b.y, .int .i64 vv] W fun e w'' => e = .returned (.int .i64 (hold (b.y + vv))) ∧ w'' = W := fun W => (wadd_any W b.y vv (by omega) (by omega) (by omega) (by omega)).mono (fun _ _ h => ⟨h.1, h.2.symm⟩)
        have pA := Lib.hid hA
        clear hA
        have hb1 := hold_bd (b.y + vv)
        refine wp_region_still_tail 12 (by kernel_rfl) (by kernel_rfl) ?_
        simp only [List.take_succ_cons, List.take_zero, List.drop_succ_cons, List.drop_zero]
        repeat (first | still_step | still_call (pA.out _))
        refine wpStill_nil ?_
        change wpList _ _ _ _ _ (World.drew _)
        generalize hold (b.y + vv) = yv at *
        have B3 := B2.y HI.out yv
        have T3 := TG.set T2 (2 + i * 7 + 1) (.int .i64 yv)
        clear B2 T2 pA
        by_cases hc : yv ≤ 0
        · have HF3 := HF2.out
          rw [if_pos hc] at HF3
          have HF4 := Lib.hid HF3
          clear HF3
          have B4 := ((B3.y HI.out 0).vy HI.out 0).drew
          have T4 := (TG.set (TG.set T3 (2 + i * 7 + 1) (.int .i64 0)) (2 + i * 7 + 3) (.int .i64 0)).drew
          clear B3 T3 HF2
          go_wp2_with fail
          go_end0
          exact ⟨rfl, by rw [HF4.out]; with_reducible exact B4, by with_reducible exact T4⟩
        · have HF3 := HF2.out
          rw [if_neg hc] at HF3
          have HF4 := Lib.hid HF3
          clear HF3
          clear HF2
          go_wp2_with fail
          go_end0
          exact ⟨rfl, by rw [HF4.out]; with_reducible exact B3.drew, by with_reducible exact T3.drew⟩
    · try (exfalso; simp only [beq_iff_eq, beq_eq_false_iff_ne, ne_eq] at h2; omega)
      all_goals
        go_wp2_with fail
        refine (pS.out _).mono ?_
        rintro e w' ⟨rfl, rfl⟩
        go_upto_region 4 with fail
        have B2 := B1'.out.vy HI.out (hold (jv - 21845))
        have T2 := TG.set T1 (2 + i * 7 + 3) (.int .i64 (hold (jv - 21845)))
        have E3 := Lib.hid E2.out.symm
        generalize hold (jv - 21845) = vv at *
        first
          | generalize W1.setCell ⟨g, 2 + i * 7 + 3, none⟩ (.int .i64 vv) = W2 at *
          | generalize w.setCell ⟨g, 2 + i * 7 + 3, none⟩ (.int .i64 vv) = W2 at *
        have HF2 := HF
        rw [← E3.out] at HF2 hd
        clear hz T1 B1' pS E E2 hy HF E3 y1 v1 f1 f3
        obtain ⟨-, y1, -, v1, -, -, -, fr1⟩ := B2.cells HI.out
        have f3 := fr1 (2 + i * 7 + 3)
        have f1 := fr1 (2 + i * 7 + 1)
        clear fr1
        have hA : ∀ W, Calls Tryz.prog 97 #[.int .i64 b.y, .int .i64 vv] W fun e w'' => e = .returned (.int .i64 (hold (b.y + vv))) ∧ w'' = W := fun W => (wadd_any W b.y vv (by omega) (by omega) (by omega) (by omega)).mono (fun _ _ h => ⟨h.1, h.2.symm⟩)
        have pA := Lib.hid hA
        clear hA
        have hb1 := hold_bd (b.y + vv)
        refine wp_region_still_tail 12 (by kernel_rfl) (by kernel_rfl) ?_
        simp only [List.take_succ_cons, List.take_zero, List.drop_succ_cons, List.drop_zero]
        repeat (first | still_step | still_call (pA.out _))
        refine wpStill_nil ?_
        change wpList _ _ _ _ _ (World.drew _)
        generalize hold (b.y + vv) = yv at *
        have B3 := B2.y HI.out yv
        have T3 := TG.set T2 (2 + i * 7 + 1) (.int .i64 yv)
        clear B2 T2 pA
        by_cases hc : yv ≤ 0
        · have HF3 := HF2.out
          rw [if_pos hc] at HF3
          have HF4 := Lib.hid HF3
          clear HF3
          have B4 := ((B3.y HI.out 0).vy HI.out 0).drew
          have T4 := (TG.set (TG.set T3 (2 + i * 7 + 1) (.int .i64 0)) (2 + i * 7 + 3) (.int .i64 0)).drew
          clear B3 T3 HF2
          go_wp2_with fail
          go_end0
          exact ⟨rfl, by rw [HF4.out]; with_reducible exact B4, by with_reducible exact T4⟩
        · have HF3 := HF2.out
          rw [if_neg hc] at HF3
          have HF4 := Lib.hid HF3
          clear HF3
          clear HF2
          go_wp2_with fail
          go_end0
          exact ⟨rfl, by rw [HF4.out]; with_reducible exact B3.drew, by with_reducible exact T3.drew⟩
    · try (exfalso; simp only [beq_iff_eq, beq_eq_false_iff_ne, ne_eq] at h2; omega)
      all_goals
        go_upto_region 4 with fail
        have B2 := B1'.out
        have T2 := T1
        have HF2 := HF
        rw [E2.out] at HF2
        have hdd := hd
        clear T1 B1' pS E E2 hy HF hz hdd
        have hA : ∀ W, Calls Tryz.prog 97 #[.int .i64 b.y, .int .i64 jv] W fun e w'' => e = .returned (.int .i64 (hold (b.y + jv))) ∧ w'' = W := fun W => (wadd_any W b.y jv (by omega) (by omega) (by omega) (by omega)).mono (fun _ _ h => ⟨h.1, h.2.symm⟩)
        have pA := Lib.hid hA
        clear hA
        have hb1 := hold_bd (b.y + jv)
        refine wp_region_still_tail 12 (by kernel_rfl) (by kernel_rfl) ?_
        simp only [List.take_succ_cons, List.take_zero, List.drop_succ_cons, List.drop_zero]
        repeat (first | still_step | still_call (pA.out _))
        refine wpStill_nil ?_
        change wpList _ _ _ _ _ (World.drew _)
        generalize hold (b.y + jv) = yv at *
        have B3 := B2.y HI.out yv
        have T3 := TG.set T2 (2 + i * 7 + 1) (.int .i64 yv)
        clear B2 T2 pA
        by_cases hc : yv ≤ 0
        · have HF3 := HF2.out
          rw [if_pos hc] at HF3
          have HF4 := Lib.hid HF3
          clear HF3
          have B4 := ((B3.y HI.out 0).vy HI.out 0).drew
          have T4 := (TG.set (TG.set T3 (2 + i * 7 + 1) (.int .i64 0)) (2 + i * 7 + 3) (.int .i64 0)).drew
          clear B3 T3 HF2
          go_wp2_with fail
          go_end0
          exact ⟨rfl, by rw [HF4.out]; with_reducible exact B4, by with_reducible exact T4⟩
        · have HF3 := HF2.out
          rw [if_neg hc] at HF3
          have HF4 := Lib.hid HF3
          clear HF3
          clear HF2
          go_wp2_with fail
          go_end0
          exact ⟨rfl, by rw [HF4.out]; with_reducible exact B3.drew, by with_reducible exact T3.drew⟩
end Go.Proofs.YtckkpgopddnkiaaGreat.Gm
namespace Go.Proofs.YtckkpgopddnkiaaGreat.Gm
open Go.RowKit Go.Proofs.YtckkpgopddnkiaaGreat.Num
set_option linter.all false

set_option maxRecDepth 100000 in
set_option maxHeartbeats 4000000 in
theorem slide_any (w : World) (g : Nat) (t : TypeId) (f : F) (i : Nat) (b : Body) (hi : i < 2) (hS : BS w g t f i b) (hb : BodyOk b) :
    Calls Tryz.prog 84 #[.pointer (some ⟨g, 2 + i * 7, none⟩)] w fun e w' => e = .returned (.tuple #[]) ∧ BS w' g t f i (slideB b) ∧ TG g w w' := by
  have x0 := hb.x0
  have x1 := hb.x1
  have v0 := hb.vx0
  have v1 := hb.vx1
  obtain ⟨c0, -, c2, -, -, -, -, fr⟩ := hS.cells hi
  have f0 := fr (2 + i * 7)
  have f2 := fr (2 + i * 7 + 2)
  have HS := Lib.hid hS
  have HI := Lib.hid hi
  clear hS fr hi hb
  have HF := Lib.hid (show slideB b = if clampV (hold (b.x + b.vx)) 0 13107200 = hold (b.x + b.vx) then { b with x := clampV (hold (b.x + b.vx)) 0 13107200 } else { b with x := clampV (hold (b.x + b.vx)) 0 13107200, vx := 0 } from rfl)
  have pA := Lib.hid (fun n => (wadd_any (w.drewN n) b.x b.vx (by omega) (by omega) (by omega) (by omega)).mono (R' := fun e w'' => e = .returned (.int .i64 (hold (b.x + b.vx))) ∧ ∃ m, w'' = w.drewN m) (fun _ _ h => ⟨h.1, _, h.2.symm⟩))
  generalize hold (b.x + b.vx) = q at *
  have pC := Lib.hid (fun w => clamp_any w q 0 13107200)
  obtain ⟨c, hc⟩ : ∃ c, clampV q 0 13107200 = c := ⟨_, rfl⟩
  rw [hc] at HF pC
  clear hc
  go_enter Tryz.func84, Tryz.ntmps84
  go_upto_region 0 with fail
  go_quiet (exact pA.out _)
  go_wp2_with fail
  refine (pC.out _).mono ?_
  rintro e w' ⟨rfl, rfl⟩
  by_cases h : c = q
  · subst h
    have HF2 := HF.out
    rw [if_pos rfl] at HF2
    have HF3 := Lib.hid HF2
    clear HF2 HF
    go_wp2_with fail
    go_end0
    exact ⟨rfl, by rw [HF3.out]; exact (HS.out.drewN nq).x HI.out _, TG.set ((Touch.refl _ _).drewN nq) _ _⟩
  · have h' : (c == q) = false := by simpa using h
    have HF2 := HF.out
    rw [if_neg h] at HF2
    have HF3 := Lib.hid HF2
    clear HF2 HF h
    go_wp2_with fail
    go_end0
    exact ⟨rfl, by rw [HF3.out]; exact ((HS.out.drewN nq).x HI.out _).vx HI.out _, TG.set (TG.set ((Touch.refl _ _).drewN nq) _ _) _ _⟩
set_option maxHeartbeats 1000000 in
theorem born_any (w : World) (i : Nat) (hi : i < 2) :
    Calls Tryz.prog 56 #[.int .i64 i] w fun e w' => e = .returned (bodV (bornB i)) ∧ Below w.heap.size w w' := by
  have e : i = 0 ∨ i = 1 := by omega
  rcases e with rfl | rfl
  all_goals
    clear hi
    go_enter Tryz.func56, Tryz.ntmps56
    go_wp2_with fail
    refine bodyPost_ret (v := bodV (bornB _)) (by simp [results, Tryz.results56, go_sem, bodV, bodL, bornB]) rfl ⟨rfl, ?_⟩
    repeat (refine Below.setCell ?_ (by simp) _)
    exact ((Below.refl _ _).alloc (Nat.le_refl _) _).alloc (by simp) _

set_option maxHeartbeats 1000000 in
theorem hits_any (w : World) (s : Shot) (b : Body) (sx0 : -9223372036854775808 ≤ s.x) (sx1 : s.x ≤ 9223372036854775807) (sy0 : -9223372036854775808 ≤ s.y) (sy1 : s.y ≤ 9223372036854775807) (hb : BodyOk b) :
    Calls Tryz.prog 99 #[shoV s, bodV b] w fun e w' => e = .returned (.bool (hitsV s b)) ∧ Below w.heap.size w w' := by
  have x0 := hb.x0
  have x1 := hb.x1
  have y0 := hb.y0
  have y1 := hb.y1
  have HH := Lib.hid (show hitsV s b = (nearV s.x b.x 262144 && nearV s.y (hold (b.y + 65536)) 393216) from rfl)
  have hh := hold_bd (b.y + 65536)
  obtain ⟨W1, hW1, HBW⟩ : ∃ W1, W1 = (w.alloc (.cells (shoL s).toArray 43)).alloc (.cells (bodL b).toArray 40) ∧ Below w.heap.size w W1 := ⟨_, rfl, ((Below.refl _ _).alloc (Nat.le_refl _) _).alloc (by simp) _⟩
  have k1 : W1.cell? ⟨w.heap.size, 1, none⟩ = some (.int .i64 s.x) := by rw [hW1]; exact ((Blk.new w 43 (shoL s).toArray).alloc _).cell 1
  have k2 : W1.cell? ⟨w.heap.size, 2, none⟩ = some (.int .i64 s.y) := by rw [hW1]; exact ((Blk.new w 43 (shoL s).toArray).alloc _).cell 2
  have b0 : W1.cell? ⟨w.heap.size + 1, 0, none⟩ = some (.int .i64 b.x) := by rw [hW1]; have := (Blk.new (w.alloc (.cells (shoL s).toArray 43)) 40 (bodL b).toArray).cell 0; simpa [bodL] using this
  have b1 : W1.cell? ⟨w.heap.size + 1, 1, none⟩ = some (.int .i64 b.y) := by rw [hW1]; have := (Blk.new (w.alloc (.cells (shoL s).toArray 43)) 40 (bodL b).toArray).cell 1; simpa [bodL] using this
  have p1 := Lib.hid (fun n => (near_any (W1.drewN n) s.x b.x 262144 (by omega) (by omega) (by omega) (by omega) (by omega)).mono (R' := fun e w'' => e = .returned (.bool (nearV s.x b.x 262144)) ∧ ∃ m, w'' = W1.drewN m) (fun _ _ h => ⟨h.1, _, h.2.symm⟩))
  have p2 := Lib.hid (fun n => (wadd_any (W1.drewN n) b.y 65536 (by omega) (by omega) (by omega) (by omega)).mono (R' := fun e w'' => e = .returned (.int .i64 (hold (b.y + 65536))) ∧ ∃ m, w'' = W1.drewN m) (fun _ _ h => ⟨h.1, _, h.2.symm⟩))
  have p3 := Lib.hid (fun n => (near_any (W1.drewN n) s.y (hold (b.y + 65536)) 393216 (by omega) (by omega) (by omega) (by omega) (by omega)).mono (R' := fun e w'' => e = .returned (.bool (nearV s.y (hold (b.y + 65536)) 393216)) ∧ ∃ m, w'' = W1.drewN m) (fun _ _ h => ⟨h.1, _, h.2.symm⟩))
  generalize hold (b.y + 65536) = q at *
  generalize nearV s.x b.x 262144 = n1 at *
  generalize nearV s.y q 393216 = n2 at *
  unfold shoV bodV
  unfold shoL bodL at hW1 ⊢
  clear hb
  cases n1
  · go_enter Tryz.func99, Tryz.ntmps99
    go_upto_region 1 with fail
    rw [← hW1]
    clear hW1
    go_quiet (exact p1.out _)
    go_wp2_with fail
    go_ret
    exact ⟨ret_bool (by rw [HH.out]; rfl), below_drewN HBW _⟩
  · go_enter Tryz.func99, Tryz.ntmps99
    go_upto_region 1 with fail
    rw [← hW1]
    clear hW1
    go_quiet ((first | (go_at_call 97; exact p2.out _) | (go_at_call_of 109 (Value.int IntKind.i64 262144); exact p1.out _) | (go_at_call_of 109 (Value.int IntKind.i64 393216); exact p3.out _)))
    go_wp2_with fail
    go_ret
    exact ⟨ret_bool (by rw [HH.out]; cases n2 <;> rfl), below_drewN HBW _⟩
end Go.Proofs.YtckkpgopddnkiaaGreat.Gm
namespace Go.Proofs.YtckkpgopddnkiaaGreat.Gm
open Go.RowKit Go.Proofs.YtckkpgopddnkiaaGreat.Num
set_option linter.all false

theorem infoS : (Tryz.prog.info? 43).map (·.size) = some 6 := by kernel_rfl
theorem infoB : (Tryz.prog.info? 40).map (·.size) = some 7 := by kernel_rfl
theorem shoL_one (s : Shot) : (shoL s).toArray.all (·.oneCell') = true := by simp [shoL, Value.oneCell']
theorem bodL_one (b : Body) : (bodL b).toArray.all (·.oneCell') = true := by simp [bodL, Value.oneCell']

set_option maxRecDepth 100000 in
set_option maxHeartbeats 4000000 in
theorem fire_any (w : World) (g : Nat) (t : TypeId) (f : F) (i n : Nat) (hi : i < 2) (hn : n < 65536) (hS : SB w g t f) (hb : BodyOk (bod f (2 + i * 7))) :
    Calls Tryz.prog 85 #[.pointer (some ⟨g, 0, none⟩), .int .i64 i, .int .u16 n] w fun e w' => e = .returned (.tuple #[]) ∧ SB w' g t (fireF f i n) ∧ TG g w w' := by
  have a16 := and16 hn
  obtain ⟨x, y, c, fc⟩ : ∃ x : Unit, ∃ y : Unit, ∃ c : Unit, True := ⟨(), (), (), trivial⟩
  clear x y c fc
  have hc0 := hb.c0
  have hc1 := hb.c1
  have hy0 := hb.y0
  have hy1 := hb.y1
  obtain ⟨cx, cy, -, -, -, cc, cf, fr⟩ := hS.bodyAt hi
  have HF := Lib.hid (show fireF f i n = if 0 < (bod f (2 + i * 7)).cool then put f (2 + i * 7 + 5) ((bod f (2 + i * 7)).cool - 1)
    else if n / 16 % 2 = 1 ∧ freeK f < 8 then put (setS f (16 + freeK f * 6) (shotOf (bod f (2 + i * 7)) i)) (2 + i * 7 + 5) 15 else f from rfl)
  have fcool := fr (2 + i * 7 + 5)
  have HS := Lib.hid hS
  have HI := Lib.hid hi
  have i1 : (0 : Int) ≤ (i : Int) := by omega
  have i2 : (i : Int) < 2 := by omega
  obtain ⟨b, hbb⟩ : ∃ b, bod f (2 + i * 7) = b := ⟨_, rfl⟩
  rw [hbb] at hc0 hc1 hy0 hy1 cx cy cc cf HF
  clear hS hb hi fr hbb
  by_cases h : 0 < b.cool
  · have HF2 := HF.out
    rw [if_pos h] at HF2
    have HF3 := Lib.hid HF2
    clear HF2 HF a16 cx cy cf
    go_enter Tryz.func85, Tryz.ntmps85
    go_wp2_with fail
    refine bodyPost_ret (results_none rfl _ _ _) rfl ⟨rfl, ?_, ?_⟩
    · rw [HF3.out]
      have := HI.out
      exact HS.out.setInt (by omega) (by omega) (by omega) _
    · exact TG.set (Touch.refl _ _) _ _
  · have HF2 := HF.out
    rw [if_neg h] at HF2
    have HF3 := Lib.hid HF2
    clear HF2 HF
    have hbt : n / 16 % 2 = 1 ∨ n / 16 % 2 = 0 := by omega
    rcases hbt with hbt | hbt
    · rw [hbt] at a16 HF3
      simp only [Nat.zero_mul, Nat.one_mul] at a16
      have a16' : bits .and .u16 (n : Int) 16 = _ := a16
      clear a16 hbt
      have hh := clampV_in b.facing (a := -1) (b := 1) (by omega)
      have HSh := Lib.hid (show shotOf b i = ⟨1, b.x, hold (b.y + 65536), clampV b.facing (-1) 1 * 393216, i, 60⟩ from rfl)
      have pA := Lib.hid (fun W => (wadd_any W b.y 65536 (by omega) (by omega) (by omega) (by omega)).mono (R' := fun e w'' => e = .returned (.int .i64 (hold (b.y + 65536))) ∧ w'' = W) (fun _ _ h => ⟨h.1, h.2.symm⟩))
      have pC := Lib.hid (fun W => (clamp_any W b.facing (-1) 1).mono (R' := fun e w'' => e = .returned (.int .i64 (clampV b.facing (-1) 1)) ∧ w'' = W) (fun _ _ h => ⟨h.1, h.2.symm⟩))
      generalize hold (b.y + 65536) = yv at *
      generalize clampV b.facing (-1) 1 = cl at *
      have q1 : IntKind.i64.wrap (cl * 393216) = cl * 393216 := IntWalk.i64_in _ (by omega)
      clear hc0 hc1
      go_enter Tryz.func85, Tryz.ntmps85
      go_wp2_with fail
      go_loopw [28] (fun kv wr => ∃ k : Nat, k ≤ 8 ∧ kv = .int .i64 k ∧ (∀ j, j < k → f (16 + j * 6) ≠ 0) ∧ wr = w) (fun kv _ => 8 - (intOf kv).toNat)
      case atStart => exact ⟨0, by omega, rfl, fun j hj => by omega, by first | trivial | rfl⟩
      case round =>
        obtain ⟨k, hk, rfl, hall, rfl⟩ := hrel
        by_cases hlt : k < 8
        · have k1 : (0 : Int) ≤ (k : Int) := by omega
          have k2 : (k : Int) < 8 := by omega
          have con := HS.out.on hlt
          by_cases hon : f (16 + k * 6) = 0
          · rw [onB_no hon] at con
            have hfree : freeK f = k := freeK_eq f k hk hall (fun _ => hon)
            have HF4 := HF3.out
            rw [hfree, if_pos ⟨by first | trivial | rfl, hlt⟩] at HF4
            have HF5 := Lib.hid HF4
            have HK := Lib.hid hlt
            have ht := HS.out.drew.there (o := 16 + k * 6) (n := 6) (by omega)
            clear HF4 HF3 hfree hon hall hlt
            go_upto_region 8 with fail
            refine wp_region_still_tail 22 (by kernel_rfl) (by kernel_rfl) ?_
            simp only [List.take_succ_cons, List.take_zero, List.drop_succ_cons, List.drop_zero]
            iterate 10 still_step
            still_call (pA.out _)
            iterate 4 still_step
            still_call (pC.out _)
            iterate 6 still_step
            refine wpStill_nil ?_
            change wpList _ _ _ _ _ (World.drew _)
            have HS2 := HS.out.drew.setShot HK.out (shotOf b i)
            have T2 : TG g wr (wr.drew.setCells g (16 + k * 6) (shoL (shotOf b i))) := touch_cells (S := fun k => k = g) (Touch.refl _ _).drew g (.inl rfl) _ _
            refine wpList_store_mid (by rfl) 43 _ _ (by rfl) g (16 + k * 6) #[.bool true, .int .i64 b.x, .int .i64 yv, .int .i64 (cl * 393216), .int .i64 i, .int .i64 60] (by rfl) (by rfl) ht infoS (by simp [Value.oneCell']) ?_
            rw [HSh.out] at HS2 T2
            change wpList _ _ _ _ _ (World.setCells (World.drew _) g (16 + k * 6) (shoL ⟨1, b.x, yv, cl * 393216, i, 60⟩))
            rw [HSh.out] at HF5
            generalize wr.drew.setCells g (16 + k * 6) (shoL ⟨1, b.x, yv, cl * 393216, i, 60⟩) = W2 at *
            have hi3 := HI.out
            have c5 := HS2.int (j := 2 + i * 7 + 5) (by omega) (by omega) (by omega)
            have f5 := HS2.fr (2 + i * 7 + 5)
            have R := HS2.setInt (j := 2 + i * 7 + 5) (by omega) (by omega) (by omega) 15
            have RT := TG.set T2 (2 + i * 7 + 5) (.int .i64 15)
            clear hi3 HS2 T2 con ht q1 pA pC
            go_wp2_with fail
            refine bodyPost_ret (results_none rfl _ _ _) rfl ⟨rfl, ?_, ?_⟩
            · rw [HF5.out]
              with_reducible exact R
            · with_reducible exact RT
          · rw [onB_yes hon] at con
            have HALL := Lib.hid (show ∀ j, j < k + 1 → f (16 + j * 6) ≠ 0 from fun j hj => by
              by_cases e : j = k
              · subst e; exact hon
              · exact hall j (by omega))
            clear hall hon
            go_wp2_with fail
            go_roundw
            case rel => exact ⟨k + 1, by omega, by go_num, HALL.out, by first | trivial | rfl⟩
            case measure => simp [intOf]; omega
        · obtain rfl : k = 8 := by omega
          have HF4 := HF3.out
          rw [if_neg (fun h => by have := freeK_free f h.2; exact hall _ h.2 this)] at HF4
          have HF5 := Lib.hid HF4
          clear HF4 hall
          go_wp2_with fail
          go_end0
          exact ⟨rfl, by rw [HF5.out]; exact HS.out, Touch.refl _ _⟩
    · rw [hbt] at a16 HF3
      simp only [Nat.zero_mul, Nat.one_mul] at a16
      have a16' : bits .and .u16 (n : Int) 16 = _ := a16
      have HF4 := HF3.out
      rw [if_neg (by omega)] at HF4
      have HF5 := Lib.hid HF4
      clear HF4 HF3 a16 hbt
      go_enter Tryz.func85, Tryz.ntmps85
      go_wp2_with fail
      refine bodyPost_ret (results_none rfl _ _ _) rfl ⟨rfl, ?_, Touch.refl _ _⟩
      rw [HF5.out]
      exact HS.out
end Go.Proofs.YtckkpgopddnkiaaGreat.Gm
namespace Go.Proofs.YtckkpgopddnkiaaGreat.Gm
open Go.RowKit Go.Proofs.YtckkpgopddnkiaaGreat.Num
set_option linter.all false

theorem setB_life (f : F) (o : Nat) (l v : Int) (b : Body) {s : Nat} (h : s < o ∨ o + 7 ≤ s) : setB (put (put f (o + 4) l) s v) o b = setB (put f s v) o b := by
  funext k
  unfold setB put
  (repeat' split) <;> (first | rfl | omega)

set_option maxRecDepth 100000 in
set_option maxHeartbeats 4000000 in
theorem hurt_any (w : World) (g : Nat) (t : TypeId) (f : F) (who n : Nat) (hw : who < 2) (hn : n < 65536) (hS : SB w g t f) (hb : BodyOk (bod f (2 + who * 7))) (s0 : 0 ≤ f 1) (s1 : f 1 < 4294967296) (q0 : 0 ≤ f (64 + (1 - who))) (q1 : f (64 + (1 - who)) ≤ 4611686018427387904) :
    Calls Tryz.prog 100 #[.pointer (some ⟨g, 0, none⟩), .int .i64 who, .int .u16 n] w fun e w' => e = .returned (.tuple #[]) ∧ SB w' g t (hurtF f who n) ∧ TG g w w' := by
  have a32 := and32 hn
  have l0 := hb.l0
  have l1 := hb.l1
  have hpn := painV_in s0 n
  obtain ⟨-, -, -, -, cl, -, -, fr⟩ := hS.bodyAt hw
  have fl := fr (2 + who * 7 + 4)
  have csd := hS.seed
  have i1 : (0 : Int) ≤ (who : Int) := by omega
  have i2 : (who : Int) < 2 := by omega
  obtain ⟨v, hv⟩ : ∃ v, 1 - who = v := ⟨_, rfl⟩
  have hv1 : (1 : Int) - (who : Int) = (v : Int) := by omega
  have hv2 : v < 2 := by omega
  have HF := Lib.hid (show hurtF f who n = if 0 < (bod f (2 + who * 7)).life - painV (f 1) n then put f (2 + who * 7 + 4) ((bod f (2 + who * 7)).life - painV (f 1) n)
    else setB (put f (64 + (1 - who)) (f (64 + (1 - who)) + 1)) (2 + who * 7) (bornB who) from rfl)
  rw [hv] at HF q0 q1
  have pB := Lib.hid (fun W => born_any W who hw)
  have HS := Lib.hid hS
  have HW := Lib.hid hw
  obtain ⟨b, hbb⟩ : ∃ b, bod f (2 + who * 7) = b := ⟨_, rfl⟩
  rw [hbb] at l0 l1 cl HF
  obtain ⟨sd, hsd⟩ : ∃ sd, f 1 = sd := ⟨_, rfl⟩
  rw [hsd] at s0 s1 csd HF hpn
  clear hbb hS hb fr hsd hv
  have hbt : n / 32 % 2 = 1 ∨ n / 32 % 2 = 0 := by omega
  rcases hbt with hbt | hbt
  · rw [hbt] at a32
    simp only [Nat.zero_mul, Nat.one_mul] at a32
    have a32' : bits .and .u16 (n : Int) 32 = _ := a32
    obtain ⟨m, hm⟩ : ∃ m : Nat, sd / 65536 = (m : Int) := ⟨(sd / 65536).toNat, by omega⟩
    have hm1 : m < 65536 := by omega
    rw [show painV sd n = 4 + (m : Int) % 3 by unfold painV; rw [if_pos hbt, hm]] at HF hpn
    have HM := Lib.hid hpn
    clear a32 hbt hw
    go_enter Tryz.func100, Tryz.ntmps100
    go_upto_region 3 with fail
    generalize hp : (4 + (m : Int) % 3) = p at *
    have hp2 := HM.out
    clear hp HM hm
    have R1 := HS.out.setInt (j := 2 + who * 7 + 4) (by have := HW.out; omega) (by omega) (by have := HW.out; omega) (b.life - p)
    have RT1 := TG.set (show TG g w w from Touch.refl _ w) (2 + who * 7 + 4) (.int .i64 (b.life - p))
    have hq : 1 ≤ p ∧ p ≤ 10 := hp2
    · skip
      go_upto_region 5 with fail
      by_cases hl : 0 < b.life - p
      · have HF2 := HF.out
        rw [if_pos hl] at HF2
        have HF3 := Lib.hid HF2
        clear HF2 HF
        go_upto_region 5 with fail
        go_wp2_with fail
        refine bodyPost_ret (results_none rfl _ _ _) rfl ⟨rfl, ?_, RT1⟩
        rw [HF3.out]
        exact R1
      · have HF2 := HF.out
        rw [if_neg hl] at HF2
        have HF3 := Lib.hid HF2
        clear HF2 HF
        go_upto_region 6 with fail
        generalize w.setCell ⟨g, 2 + who * 7 + 4, none⟩ (.int .i64 (b.life - p)) = W1 at *
        have s1 := R1.score hv2
        rw [put_ne _ _ (by omega)] at s1
        have sf := R1.fr (64 + v)
        have hv3 : (0 : Int) ≤ (v : Int) := by omega
        have hv4 : (v : Int) < 2 := by omega
        have R2 := R1.setInt (j := 64 + v) (by omega) (by omega) (by omega) (f (64 + v) + 1)
        have RT2 := TG.set RT1 (64 + v) (.int .i64 (f (64 + v) + 1))
        clear R1 RT1
        go_region
        all_goals
          go_wp2_with fail
          refine (pB.out _).mono ?_
          rintro e w3 ⟨rfl, hb3⟩
          have R3 := R2.drew.below hb3 R2.lt
          have RT3 : TG g w w3 := RT2.drew.trans (Touch.of_below hb3 : TG g _ _) (fun k hk => .inl hk)
          have ht := R3.there (o := 2 + who * 7) (n := 7) (by omega)
          have R4 := R3.setBody HW.out (bornB who)
          have RT4 := touch_cells (S := fun k => k = g) RT3 g (.inl rfl) (bodL (bornB who)) (2 + who * 7)
          rw [setB_life _ _ _ _ _ (by omega)] at R4
          clear R2 RT2 R3 RT3
          go_wp2_with (refine wpList_store_mid (by rfl) 40 _ _ (by rfl) g (2 + who * 7) (bodL (bornB who)).toArray (by rfl) (by rfl) ht infoB (bodL_one _) ?_)
          go_end0
          exact ⟨rfl, by rw [HF3.out]; exact R4, RT4⟩
  · rw [hbt] at a32
    simp only [Nat.zero_mul, Nat.one_mul] at a32
    have a32' : bits .and .u16 (n : Int) 32 = _ := a32
    rw [show painV sd n = 10 by unfold painV; rw [if_neg (by omega)]] at HF hpn
    clear a32 hbt hw
    have R1 := HS.out.setInt (j := 2 + who * 7 + 4) (by have := HW.out; omega) (by omega) (by have := HW.out; omega) (b.life - 10)
    have RT1 := TG.set (show TG g w w from Touch.refl _ w) (2 + who * 7 + 4) (.int .i64 (b.life - 10))
    go_enter Tryz.func100, Tryz.ntmps100
    · skip
      go_upto_region 5 with fail
      by_cases hl : 0 < b.life - 10
      · have HF2 := HF.out
        rw [if_pos hl] at HF2
        have HF3 := Lib.hid HF2
        clear HF2 HF
        go_upto_region 5 with fail
        go_wp2_with fail
        refine bodyPost_ret (results_none rfl _ _ _) rfl ⟨rfl, ?_, RT1⟩
        rw [HF3.out]
        exact R1
      · have HF2 := HF.out
        rw [if_neg hl] at HF2
        have HF3 := Lib.hid HF2
        clear HF2 HF
        go_upto_region 6 with fail
        generalize w.setCell ⟨g, 2 + who * 7 + 4, none⟩ (.int .i64 (b.life - 10)) = W1 at *
        have s1 := R1.score hv2
        rw [put_ne _ _ (by omega)] at s1
        have sf := R1.fr (64 + v)
        have hv3 : (0 : Int) ≤ (v : Int) := by omega
        have hv4 : (v : Int) < 2 := by omega
        have R2 := R1.setInt (j := 64 + v) (by omega) (by omega) (by omega) (f (64 + v) + 1)
        have RT2 := TG.set RT1 (64 + v) (.int .i64 (f (64 + v) + 1))
        clear R1 RT1
        go_region
        all_goals
          go_wp2_with fail
          refine (pB.out _).mono ?_
          rintro e w3 ⟨rfl, hb3⟩
          have R3 := R2.drew.below hb3 R2.lt
          have RT3 : TG g w w3 := RT2.drew.trans (Touch.of_below hb3 : TG g _ _) (fun k hk => .inl hk)
          have ht := R3.there (o := 2 + who * 7) (n := 7) (by omega)
          have R4 := R3.setBody HW.out (bornB who)
          have RT4 := touch_cells (S := fun k => k = g) RT3 g (.inl rfl) (bodL (bornB who)) (2 + who * 7)
          rw [setB_life _ _ _ _ _ (by omega)] at R4
          clear R2 RT2 R3 RT3
          go_wp2_with (refine wpList_store_mid (by rfl) 40 _ _ (by rfl) g (2 + who * 7) (bodL (bornB who)).toArray (by rfl) (by rfl) ht infoB (bodL_one _) ?_)
          go_end0
          exact ⟨rfl, by rw [HF3.out]; exact R4, RT4⟩
end Go.Proofs.YtckkpgopddnkiaaGreat.Gm
