/-
  backstayref01.Times of two numbers below 65536 ^ 4; Parts; backstayref22.Mul.
-/
import Derived.Test.YtblnfkhaicjeaaaGmul
import Derived.Test.YtblnfkhaicjeaaaBlk
namespace Go.Proofs.Ytblnfkhaicjeaaa.Num
open Go.RowKit
set_option linter.all false

def rowF (i x n k : Nat) : Nat → Nat := fun j => if j < i + k then dig (65536 ^ i * (x * n)) j else 0
theorem rowF_succ (i x n k j : Nat) : upd (rowF i x n k) (i + k) ((x * dig n k + mcar x n k) % 65536) j = rowF i x n (k + 1) j := by
  rw [mul_dig]
  unfold upd rowF
  by_cases h : j = i + k
  · subst h
    rw [if_pos rfl, if_pos (by omega), dig_mul_pow]
  · rw [if_neg h]
    by_cases h2 : j < i + k
    · rw [if_pos h2, if_pos (by omega)]
    · rw [if_neg h2, if_neg (by omega)]
theorem rowF_end (i x n j : Nat) (hx : x < 65536) (hn : n < 65536 ^ 4) : upd (rowF i x n 4) (i + 4) (mcar x n 4) j = dig (65536 ^ i * (x * n)) j := by
  have hc : mcar x n 4 = dig (x * n) 4 := (mcar_end x n 4 hn).resolve_right (fun h => h hx)
  rw [hc]
  unfold upd rowF
  by_cases h : j = i + 4
  · subst h
    rw [if_pos rfl, dig_mul_pow]
  · rw [if_neg h]
    by_cases h2 : j < i + 4
    · rw [if_pos h2]
    · rw [if_neg h2]
      have hxn : x * n < 65536 ^ 5 := Nat.lt_of_lt_of_le (Nat.mul_lt_mul'' hx hn) (by decide)
      have hp : 65536 ^ i * (x * n) < 65536 ^ (i + 5) := by rw [Nat.pow_add]; exact Nat.mul_lt_mul_of_pos_left hxn (pow_pos' i)
      exact (dig_big' hp (by omega)).symm
theorem wcs_one (s : Bool) (f : Nat → Nat) : (wcs s f).all (·.oneCell') = true := by simp [wcs, Value.oneCell']
theorem wcs_size (s : Bool) (f : Nat → Nat) : (wcs s f).size = 10 := rfl
theorem infoW : (Try.prog.info? 198).map (·.size) = some 10 := by kernel_rfl
theorem acc_succ (m n i : Nat) : m % 65536 ^ i * n + 65536 ^ i * (dig m i * n) = m % 65536 ^ (i + 1) * n := by
  rw [mod_succ, Nat.add_mul, Nat.mul_assoc]

set_option maxRecDepth 100000 in
set_option maxHeartbeats 4000000 in
theorem times_any (w : World) (sa sb : Bool) (m n : Nat) (hm : m < 65536 ^ 4) (hn : n < 65536 ^ 4) :
    Calls Try.prog 142 #[wv sa m, wv sb n] w fun e w' => e = .returned (wv (sa != sb) (m * n)) ∧ Below w.heap.size w w' := by
  obtain ⟨W1, hW1, ha, hb, hc, hB1, hz1⟩ := boxes2 w sa sb (dig m) (dig n)
  have pP := Lib.hid (fun W m n => plus_any W false false m n)
  unfold wv at pP
  unfold wv
  unfold wz at hW1
  have HM := Lib.hid hm
  have HN := Lib.hid hn
  clear hm hn
  have hz1' : W1.heap.size = w.heap.size + 1 + 1 + 1 := by omega
  go_enter Try.func142, Try.ntmps142
  go_upto_region 1 with fail
  rw [← hW1]
  have HZ := Lib.hid hz1'
  clear hW1 hz1 hz1'
  obtain ⟨bo, hbo⟩ : ∃ bo, bo = w.heap.size + 1 + 1 + 1 := ⟨_, rfl⟩
  have hd := WB.zero W1
  have hB2 : Below w.heap.size w (W1.alloc (.cells wz 198)) := hB1.alloc hB1.size _
  have ha2 := WB.alloc ha (.cells wz 198)
  have hb2 := WB.alloc hb (.cells wz 198)
  have hc2 := WB.alloc hc (.cells wz 198)
  rw [HZ.out] at hd
  have hzz : (W1.alloc (.cells wz 198)).heap.size = w.heap.size + 4 := by simp [HZ.out]
  have HZZ := Lib.hid hzz
  unfold wz at hd hB2 ha2 hb2 hc2 HZZ
  clear ha hb hc hB1 hzz
  go_upto_region 2 with fail
  rw [HZ.out]
  generalize W1.alloc _ = W2 at *
  go_wp2_with fail
  go_loopw [6] (fun iv wr => ∃ i : Nat, i ≤ 4 ∧ iv = .int .i64 i ∧ WB wr w.heap.size sa (dig m) ∧ WB wr (w.heap.size + 1) sb (dig n) ∧ WB wr (w.heap.size + 1 + 1) false (fun _ => 0) ∧ WB wr (w.heap.size + 1 + 1 + 1) false (dig (m % 65536 ^ i * n)) ∧ w.heap.size + 4 ≤ wr.heap.size ∧ Below w.heap.size w wr) (fun iv _ => 4 - (intOf iv).toNat)
  case atStart => exact ⟨0, by omega, rfl, ha2, hb2, hc2, hd.congr (fun j _ => by simp [Nat.mod_one, dig]), by rw [HZZ.out]; omega, hB2⟩
  case round =>
    clear ha2 hb2 hc2 hd hB2 HZZ HZ
    obtain ⟨i, hi, rfl, ha, hb, hc, hd, hz, hB⟩ := hrel
    obtain ⟨wo, rfl⟩ : ∃ wo : World, wo = wr := ⟨_, rfl⟩
    by_cases hlt : i < 4
    · have i1 : (0 : Int) ≤ (i : Int) := by omega
      have i2 : (i : Int) < 4 := by omega
      have HE := Lib.hid (acc_succ m n i)
      have hx := dig_lt m i
      have cX := ha.at_ (i := i) (by omega)
      have HC := Lib.hid (rowF_end i (dig m i) n · hx HN.out)
      have HS := Lib.hid (rowF_succ i (dig m i) n)
      have HM := Lib.hid (mul_car (dig m i) n)
      have HML := Lib.hid (fun k => mcar_le (dig m i) n k hx)
      have hm0 := mcar_zero (dig m i) n
      have H0 := Lib.hid hm0
      have hr := WB.zero wo
      have ha2 := WB.alloc ha (.cells wz 198)
      have hb2 := WB.alloc hb (.cells wz 198)
      have hc2 := WB.alloc hc (.cells wz 198)
      have hd2 := WB.alloc hd (.cells wz 198)
      have hB2 : Below w.heap.size w (wo.alloc (.cells wz 198)) := hB.alloc hB.size _
      have hz2 : (wo.alloc (.cells wz 198)).heap.size = wo.heap.size + 1 := by simp
      have HZ2 := Lib.hid hz2
      clear ha hb hc hd hB hz2 cX hm0
      unfold wz at *
      obtain ⟨x, hxx⟩ : ∃ x, dig m i = x := ⟨_, rfl⟩
      rw [hxx] at HC HS HM HML H0 hx HE
      have HX := Lib.hid hxx
      clear hxx
      go_upto_region 6 with fail
      generalize wo.heap.size = r at *
      generalize wo.alloc _ = W3 at *
      have hr0 : WB W3 r false (rowF i x n 0) := hr.congr (fun j _ => by
        unfold rowF
        split
        · rw [dig_mul_pow_lo _ _ _ (by omega)]
        · rfl)
      clear hr
      go_wp2_with fail
      go_loopw [8, 9] (fun cv jv wr => ∃ k : Nat, k ≤ 4 ∧ jv = .int .i64 k ∧ cv = .int .u64 (mcar x n k : Nat) ∧ WB wr w.heap.size sa (dig m) ∧ WB wr (w.heap.size + 1) sb (dig n) ∧ WB wr (w.heap.size + 1 + 1) false (fun _ => 0) ∧ WB wr (w.heap.size + 1 + 1 + 1) false (dig (m % 65536 ^ i * n)) ∧ WB wr r false (rowF i x n k) ∧ r + 1 ≤ wr.heap.size ∧ Below w.heap.size w wr) (fun _ jv _ => 4 - (intOf jv).toNat)
      case atStart => exact ⟨0, by omega, rfl, by rw [H0.out]; rfl, ha2, hb2, hc2, hd2, hr0, by rw [HZ2.out]; omega, hB2⟩
      case round =>
        clear ha2 hb2 hc2 hd2 hB2 HZ2 hr0
        obtain ⟨k, hk, rfl, rfl, ha, hb, hc, hd, hr, hz3, hB⟩ := hrel
        by_cases hlk : k < 4
        · have c1 := ha.at_ (i := i) (by omega)
          rw [HX.out] at c1
          have c2 := hb.at_ (i := k) (by omega)
          have f1 := hr.fr (1 + (i + k))
          have c3 := hr.at_ (i := i + k) (by omega)
          have l2 := dig_lt n k
          have l3 := HML.out k
          have a1 := Lib.hid (HM.out k)
          have a2 := Lib.hid (fun j => HS.out k j)
          have k1 : (0 : Int) ≤ (k : Int) := by omega
          have k2 : (k : Int) < 4 := by omega
          generalize dig n k = y at *
          generalize hcc : mcar x n k = c at *
          clear hcc
          have hxy : x * y ≤ 65535 * 65535 := Nat.mul_le_mul (by omega) (by omega)
          obtain ⟨p, hp⟩ : ∃ p, p = x * y := ⟨_, rfl⟩
          rw [← hp] at hxy a1 a2
          have q1 : IntKind.u64.wrap ((x : Int) * (y : Int)) = (p : Int) := by rw [hp, ← Int.natCast_mul, IntWalk.u64_in _ (by rw [hp] at hxy; omega)]
          clear hp
          have q2 : IntKind.u64.wrap ((p : Int) + (c : Int)) = (p : Int) + (c : Int) := IntWalk.u64_in _ (by omega)
          go_wp2_with fail
          go_quiet (fail)
          clear q1 q2
          go_wp2_with fail
          go_roundw
          case rel =>
            refine ⟨k + 1, by omega, by go_num, by rw [← a1.out]; go_num, ?_, ?_, ?_, ?_, ?_, ?_, ?_⟩
            · exact (ha.drewN nq).far (by simp; omega) _
            · exact (hb.drewN nq).far (by simp; omega) _
            · exact (hc.drewN nq).far (by simp; omega) _
            · exact (hd.drewN nq).far (by simp; omega) _
            · have := ((hr.drewN nq).set_ (i := i + k) (by omega) ((p + c) % 65536)).congr (fun j _ => a2.out j)
              simpa using this
            · simpa using hz3
            · exact (below_drewN hB nq).setCell (by simp; omega) _
          case measure => simp [intOf]; omega
        · obtain rfl : k = 4 := by omega
          have f1 := hr.fr (1 + (i + 4))
          have c3 := hr.at_ (i := i + 4) (by omega)
          have l3 := HML.out 4
          have a2 := Lib.hid HC.out
          generalize hcc : mcar x n 4 = c at *
          clear hcc
          go_upto_region 14 with fail
          have hr' := (hr.set_ (i := i + 4) (by omega) c).congr (fun j _ => a2.out j)
          have ha' := ha.far (p := ⟨r, 1 + (i + 4), none⟩) (by simp; omega) (.int .u64 c)
          have hb' := hb.far (p := ⟨r, 1 + (i + 4), none⟩) (by simp; omega) (.int .u64 c)
          have hc' := hc.far (p := ⟨r, 1 + (i + 4), none⟩) (by simp; omega) (.int .u64 c)
          have hd' := hd.far (p := ⟨r, 1 + (i + 4), none⟩) (by simp; omega) (.int .u64 c)
          have hB' : Below w.heap.size w (wr.setCell ⟨r, 1 + (i + 4), none⟩ (.int .u64 c)) := hB.setCell (by simp; omega) _
          have hz4 : r + 1 ≤ (wr.setCell ⟨r, 1 + (i + 4), none⟩ (.int .u64 c)).heap.size := by simpa using hz3
          clear ha hb hc hd hr hB f1 c3 hz3
          generalize wr.setCell ⟨r, 1 + (i + 4), none⟩ (.int .u64 c) = W4 at *
          have hi5 : Hid (i + 1 ≤ 4) := Lib.hid (by omega)
          go_wp2_with (first | (refine wpList_load_blk (by rfl) 198 _ (by rfl) (w.heap.size + 1 + 1 + 1) (by rfl) _ _ _ hd' Try.underlying198 (by rfl) infoW ?_) | (refine wpList_load_blk (by rfl) 198 _ (by rfl) r (by rfl) _ _ _ hr' Try.underlying198 (by rfl) infoW ?_))
          refine (pP.out _ _ _).mono ?_
          rintro e W5 ⟨rfl, hB5⟩
          have ha5 := ha'.below hB5 ha'.lt
          have hb5 := hb'.below hB5 hb'.lt
          have hc5 := hc'.below hB5 hc'.lt
          have hd5 := hd'.below hB5 hd'.lt
          have hz5 := hB5.size
          have HB5 := Lib.hid (hB'.trans (hB5.mono hB'.size))
          clear ha' hb' hc' hd' hr' hB' hB5
          go_wp2_with (refine wpList_store_blk (by rfl) 198 _ _ (by rfl) (w.heap.size + 1 + 1 + 1) (wcs false (dig (m % 65536 ^ i * n + 65536 ^ i * (x * n)))) (by rfl) (by rfl) _ _ hd5 infoW (by rfl) (wcs_one _ _) ?_; intro W6 hd6 ht6)
          rw [HE.out] at hd6
          have hz6 := ht6.size
          go_roundw
          case rel => exact ⟨i + 1, by omega, by go_num, Blk.touch ha5 ht6 (by omega), Blk.touch hb5 ht6 (by omega), Blk.touch hc5 ht6 (by omega), hd6, by omega, HB5.out.trans (ht6.below HB5.out.size (fun k hk => by omega))⟩
          case measure => simp [intOf]; omega
    · obtain rfl : i = 4 := by omega
      rw [Nat.mod_eq_of_lt HM.out] at hd
      have hs : (sa != sb) = (!(sa == sb)) := rfl
      have k0 := ha.cells.1
      have k1 := hb.cells.1
      have hd' := setb wo _ false (sa != sb) _ hd
      have f0 := hd.fr 0
      have d0 := hd.cells.1
      have hc' := hc.far (p := ⟨w.heap.size + 1 + 1 + 1, 0, none⟩) (by simp) (.bool (sa != sb))
      have hB' : Below w.heap.size w (wo.setCell ⟨w.heap.size + 1 + 1 + 1, 0, none⟩ (.bool (sa != sb))) := hB.setCell (by simp; omega) _
      clear ha hb hc hd hB hs
      obtain ⟨sx, hsx⟩ : ∃ sx, sx = (sa != sb) := ⟨_, rfl⟩
      have hsx' : (!(sa == sb)) = sx := by rw [hsx]; rfl
      rw [← hsx] at hd' hc' hB'
      have HSX := Lib.hid hsx
      clear hsx
      go_upto_region 16 with fail
      clear hsx'
      generalize wo.setCell ⟨w.heap.size + 1 + 1 + 1, 0, none⟩ (.bool sx) = W4 at *
      clear f0 d0 k0 k1
      go_wp2_with (first | (refine wpList_load_blk (by rfl) 198 _ (by rfl) (w.heap.size + 1 + 1 + 1) (by rfl) _ _ _ hd' Try.underlying198 (by rfl) infoW ?_) | (refine wpList_store_blk (by rfl) 198 _ _ (by rfl) (w.heap.size + 1 + 1) (wcs sx (dig (m * n))) (by rfl) (by rfl) _ _ hc' infoW (by rfl) (wcs_one _ _) ?_; intro W6 hd6 ht6))
      refine bodyPost_ret (v := .agg (wcs sx (dig (m * n)))) (results_blk Try.results142 _ _ (w.heap.size + 1 + 1) _ _ _ (by rfl) hd6 Try.underlying198 (by rfl) infoW) rfl ⟨by rw [HSX.out], ?_⟩
      exact hB'.trans (ht6.below hB'.size (fun k hk => by omega))

def partHi (s : Bool) (m : Nat) : Int := if s = true ∧ m ≠ 0 then -1 else 0
def partLo (s : Bool) (m : Nat) : Int := if s = true ∧ m ≠ 0 then 18446744073709551616 - (m : Int) else m
set_option maxRecDepth 100000 in
set_option maxHeartbeats 4000000 in
theorem parts_any (w : World) (s : Bool) (m : Nat) (hm : m < 18446744073709551616) :
    Calls Try.prog 141 #[wv s m] w fun e w' => e = .returned (.tuple #[.int .i64 (partHi s m), .int .u64 (partLo s m)]) ∧ Below w.heap.size w w' := by
  obtain ⟨W1, hW1, ha, hB⟩ : ∃ W1, W1 = w.alloc (.cells (wcs s (dig m)) 198) ∧ WB W1 w.heap.size s (dig m) ∧ Below w.heap.size w W1 := ⟨_, rfl, WB.new _ _ _, (Below.refl _ w).alloc (Nat.le_refl _) _⟩
  have k0 := ha.cells.1
  have HH := Lib.hid (fun j => dig_big' (n := m) (i := 4) (j := j) hm)
  unfold wv
  go_enter Try.func141, Try.ntmps141
  go_upto_region 1 with fail
  rw [← hW1]
  clear hW1
  go_wp2_with fail
  go_loopw [4, 5, 6] (fun hv lv iv wr => ∃ k : Nat, k ≤ 4 ∧ iv = .int .i64 ((k : Int) - 1) ∧ hv = .int .u64 0 ∧ lv = .int .u64 ((m / 65536 ^ k : Nat) : Int) ∧ wr = W1) (fun _ _ iv _ => (intOf iv + 1).toNat)
  case atStart => exact ⟨4, by omega, rfl, rfl, by rw [show m / 65536 ^ 4 = 0 from Nat.div_eq_of_lt hm]; rfl, rfl⟩
  case round =>
    obtain ⟨k, hk, rfl, rfl, rfl, rfl⟩ := hrel
    match k, hk with
    | 0, _ =>
      rw [show (((0 : Nat) : Int) - 1) = -1 from rfl, show m / 65536 ^ 0 = m by simp]
      have E1 := Lib.hid (show partHi s m = if s = true ∧ m ≠ 0 then -1 else 0 from rfl)
      have E2 := Lib.hid (show partLo s m = if s = true ∧ m ≠ 0 then 18446744073709551616 - (m : Int) else m from rfl)
      cases s
      · go_wp2_with fail
        go_ret2
        exact ⟨by rw [E1.out, E2.out]; simp, hB⟩
      · by_cases h0 : m = 0
        · subst h0
          go_wp2_with fail
          go_ret2
          exact ⟨by rw [E1.out, E2.out]; simp, hB⟩
        · have h0' : ¬ ((m : Int) = 0) := by omega
          have hw : IntKind.u64.wrap (-(m : Int)) = 18446744073709551616 - (m : Int) := by simp [IntKind.wrap, IntKind.bits, IntKind.signed]; omega
          have HF := Lib.hid h0
          clear h0
          go_wp2_with fail
          go_ret2
          exact ⟨by rw [E1.out, E2.out]; simp [HF.out], hB⟩
    | j + 1, hj4 =>
      have hj : j < 4 := by omega
      rw [show (((j + 1 : Nat) : Int) - 1) = (j : Int) by omega]
      have c1 := ha.at_ (i := j) (by omega)
      have c2 := ha.at_ (i := j + 4) (by omega)
      rw [HH.out (j + 4) (by omega)] at c2
      have l1 := dig_lt m j
      have hs1 := div_succ m j
      have hle : m / 65536 ^ j ≤ m := Nat.div_le_self _ _
      have i1 : (0 : Int) ≤ (j : Int) := by omega
      have i2 : (j : Int) < 4 := by omega
      have HS := Lib.hid hs1
      generalize dig m j = x at c1 l1 hs1 HS
      generalize m / 65536 ^ (j + 1) = t at hs1 HS ⊢
      have b1 : x + 65536 * t < 18446744073709551616 := by omega
      clear hs1 hle
      have q1 : IntKind.u64.wrap ((t : Int) * 65536) = (t : Int) * 65536 := IntWalk.u64_in _ (by omega)
      have q2 : IntKind.u64.wrap ((t : Int) * 65536 + (x : Int)) = (t : Int) * 65536 + (x : Int) := IntWalk.u64_in _ (by omega)
      go_wp2_with fail
      go_roundw
      case rel => exact ⟨j, by omega, by simp <;> rfl, by first | rfl | simp, by rw [HS.out]; simp [Int.mul_comm, Int.add_comm], trivial⟩
      case measure => simp [intOf] <;> omega
theorem dec_natAbs (v : Int) : sv (decide (v < 0)) v.natAbs = v := sv_of v
end Go.Proofs.Ytblnfkhaicjeaaa.Num
namespace Go.Proofs.Ytblnfkhaicjeaaa.Gm
open Go.RowKit Go.Proofs.Ytblnfkhaicjeaaa.Num
set_option maxRecDepth 100000 in
set_option maxHeartbeats 2000000 in
theorem rmul_any (w : World) (v : Int) (h0 : -196608 ≤ v) (h1 : v ≤ 196608) :
    Calls Try.prog 130 #[.int .i64 v, .int .i64 57344] w fun e w' => e = .returned (.int .i64 (mulV v)) ∧ Below w.heap.size w w' := by
  have pA := Lib.hid (of_any w v (by omega) (by omega))
  have pB := Lib.hid (fun w => of_any w 57344 (by omega) (by omega))
  have hv : v.natAbs ≤ 196608 := by omega
  have pC := Lib.hid (fun w => times_any w (decide (v < 0)) (decide ((57344 : Int) < 0)) v.natAbs (Int.natAbs 57344) (by omega) (by decide))
  have pD := Lib.hid (fun w => parts_any w (decide (v < 0) != decide ((57344 : Int) < 0)) (v.natAbs * Int.natAbs 57344) (by simp; omega))
  have e1 : (decide (v < 0) != decide ((57344 : Int) < 0)) = decide (v < 0) := by simp
  have e2 : Int.natAbs 57344 = 57344 := rfl
  rw [e1] at pC pD
  by_cases c : v < 0
  · have E1 := Lib.hid (show partHi (decide (v < 0)) (v.natAbs * Int.natAbs 57344) = -1 by unfold partHi; rw [if_pos ⟨by simpa using c, by rw [e2]; omega⟩])
    have E2 := Lib.hid (show partLo (decide (v < 0)) (v.natAbs * Int.natAbs 57344) = v * 57344 + 18446744073709551616 by unfold partLo; rw [if_pos ⟨by simpa using c, by rw [e2]; omega⟩, e2]; omega)
    obtain ⟨t, ht⟩ : ∃ t : Nat, (t : Int) = (v * 57344 + 18446744073709551616) / 65536 := ⟨((v * 57344 + 18446744073709551616) / 65536).toNat, by omega⟩
    have t1 : t < 281474976710656 := by omega
    have E := Lib.hid (show mulV v = -281474976710656 + (t : Int) by unfold mulV; omega)
    obtain ⟨l, hl⟩ : ∃ l : Int, l = v * 57344 + 18446744073709551616 := ⟨_, rfl⟩
    rw [← hl] at ht E2
    have q1 : l / 65536 = (t : Int) := ht.symm
    have l0 : 0 ≤ l := by omega
    have q2 : IntKind.i64.wrap (t : Int) = (t : Int) := IntWalk.i64_in _ (by omega)
    clear ht hl e1 e2
    generalize decide (v < 0) = s at *
    generalize v.natAbs = m at *
    generalize Int.natAbs 57344 = k at *
    generalize decide ((57344 : Int) < 0) = s2 at *
    rw [E1.out, E2.out] at pD
    go_enter Try.func130, Try.ntmps130
    go_wp2_with fail
    refine pA.out.mono ?_
    rintro e w1 ⟨rfl, hb1⟩
    go_wp2_with fail
    refine (pB.out _).mono ?_
    rintro e w2 ⟨rfl, hb2⟩
    go_wp2_with fail
    refine (pC.out _).mono ?_
    rintro e w3 ⟨rfl, hb3⟩
    go_wp2_with fail
    refine (pD.out _).mono ?_
    rintro e w4 ⟨rfl, hb4⟩
    go_wp2_with fail
    go_ret
    have s1 := hb1.size
    have s2 := hb2.size
    have s3 := hb3.size
    exact ⟨ret_int E.out.symm, ((hb1.trans (hb2.mono (by omega))).trans (hb3.mono (by omega))).trans (hb4.mono (by omega))⟩
  · have E1 := Lib.hid (show partHi (decide (v < 0)) (v.natAbs * Int.natAbs 57344) = 0 by unfold partHi; rw [if_neg (by simp; omega)])
    have E2 := Lib.hid (show partLo (decide (v < 0)) (v.natAbs * Int.natAbs 57344) = v * 57344 by unfold partLo; rw [if_neg (by simp; omega), e2]; omega)
    obtain ⟨t, ht⟩ : ∃ t : Nat, (t : Int) = v * 57344 / 65536 := ⟨(v * 57344 / 65536).toNat, by omega⟩
    have t1 : t < 281474976710656 := by omega
    have E := Lib.hid (show mulV v = (t : Int) by unfold mulV; omega)
    obtain ⟨l, hl⟩ : ∃ l : Int, l = v * 57344 := ⟨_, rfl⟩
    rw [← hl] at ht E2
    have q1 : l / 65536 = (t : Int) := ht.symm
    have l0 : 0 ≤ l := by omega
    have q2 : IntKind.i64.wrap (t : Int) = (t : Int) := IntWalk.i64_in _ (by omega)
    clear ht hl e1 e2
    generalize decide (v < 0) = s at *
    generalize v.natAbs = m at *
    generalize Int.natAbs 57344 = k at *
    generalize decide ((57344 : Int) < 0) = s2 at *
    rw [E1.out, E2.out] at pD
    go_enter Try.func130, Try.ntmps130
    go_wp2_with fail
    refine pA.out.mono ?_
    rintro e w1 ⟨rfl, hb1⟩
    go_wp2_with fail
    refine (pB.out _).mono ?_
    rintro e w2 ⟨rfl, hb2⟩
    go_wp2_with fail
    refine (pC.out _).mono ?_
    rintro e w3 ⟨rfl, hb3⟩
    go_wp2_with fail
    refine (pD.out _).mono ?_
    rintro e w4 ⟨rfl, hb4⟩
    go_wp2_with fail
    go_ret
    have s1 := hb1.size
    have s2 := hb2.size
    have s3 := hb3.size
    exact ⟨ret_int E.out.symm, ((hb1.trans (hb2.mono (by omega))).trans (hb3.mono (by omega))).trans (hb4.mono (by omega))⟩
end Go.Proofs.Ytblnfkhaicjeaaa.Gm
