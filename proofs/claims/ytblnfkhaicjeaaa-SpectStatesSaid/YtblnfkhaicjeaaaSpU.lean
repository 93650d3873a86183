/-
  backstaylaw31: same, awake, SpectBytes. Conditions: the inputs lie in memory.
-/
import Derived.Test.YtblnfkhaicjeaaaSpQ
import Derived.Test.YtblnfkhaicjeaaaSpD
import Derived.Test.YtblnfkhaicjeaaaSpF
namespace Go.Proofs.Ytblnfkhaicjeaaa.Spe
open Go.RowKit Go.Shelf Go.Proofs.Ytblnfkhaicjeaaa.Byt Go.Proofs.Ytblnfkhaicjeaaa.Gm Go.Proofs.Ytblnfkhaicjeaaa.RingE Go.Proofs.Ytblnfkhaicjeaaa.Crc
set_option linter.all false
attribute [local go_sem] Oper.semAt_some

theorem le4_byte (z : Int) : ∀ x ∈ le4 z, 0 ≤ x ∧ x < 256 := by
  intro x hx
  simp [le4] at hx
  rcases hx with rfl | rfl | rfl | rfl <;> omega
theorem sealB_byte {B : List Int} (h : ∀ x ∈ B, 0 ≤ x ∧ x < 256) : ∀ x ∈ sealB B, 0 ≤ x ∧ x < 256 := by
  intro x hx
  rcases List.mem_append.1 hx with hx | hx
  · exact h x hx
  · exact le4_byte _ x hx
theorem sealB_len (B : List Int) : (sealB B).length = B.length + 4 := by simp [sealB, le4]
theorem open_seal (B : List Int) : openC (sealB B) = 0 ∧ openL (sealB B) = B := by
  have h1 : (sealB B).take ((sealB B).length - 4) = B := by
    rw [sealB_len, Nat.add_sub_cancel]
    unfold sealB
    exact List.take_left
  have h2 : openC (sealB B) = 0 := by unfold openC; rw [if_neg (by rw [sealB_len]; omega), h1, if_pos rfl]
  exact ⟨h2, by unfold openL; rw [if_pos h2, h1]⟩
theorem getN_be4 (n : Nat) (h : n < 4294967296) : getN (nb (be4 (n : Int))) = n := by
  simp [be4, nb, getN]
  omega
theorem tape_flds (sd : Nat) (ls : List (Nat × Nat)) (hl : ls.length < 4294967296) : 10 ≤ (tapeB (sd : Int) ls).length ∧ mgOf (tapeB (sd : Int) ls) = 16980 ∧ manyOf (tapeB (sd : Int) ls) = ls.length := by
  refine ⟨by simp [tapeB, headB, be2, be4], ?_, ?_⟩
  · unfold mgOf tapeB headB
    rw [show (be2 16980 ++ be4 (sd : Int) ++ be4 (ls.length : Int) ++ (runsL ls).flatMap runB).take 2 = be2 16980 by simp [be2]]
    decide
  · unfold manyOf tapeB headB
    rw [show ((be2 16980 ++ be4 (sd : Int) ++ be4 (ls.length : Int) ++ (runsL ls).flatMap runB).drop 6).take 4 = be4 (ls.length : Int) by simp [be2, be4]]
    exact getN_be4 _ hl
theorem parse_own {sd : Nat} {ls : List (Nat × Nat)} (hs : sd < 4294967296) (hb : InB ls) (hl : ls.length ≤ 16384) : ParseR (sealB (tapeB (sd : Int) ls)) sd ls 0 := by
  obtain ⟨h1, h2⟩ := open_seal (tapeB (sd : Int) ls)
  obtain ⟨t1, t2, t3⟩ := tape_flds sd ls (by omega)
  unfold ParseR HeadR
  rw [if_pos h1, h2, if_neg (by omega), if_neg (by simp [t2]), if_neg (by omega)]
  exact .inl ⟨rfl, hs, hb, hl, rfl⟩

set_option maxRecDepth 100000 in
set_option maxHeartbeats 4000000 in
theorem same31_any (w : World) (a b : Option Addr) (c c' : Nat) (xs ys : List (Nat × Nat)) (ha : InRow w a xs) (hb : InRow w b ys) (hl : xs.length ≤ 9223372036854775807) (hl' : ys.length ≤ 9223372036854775807) :
    Calls Try.prog 47 #[.slice a xs.length c, .slice b ys.length c'] w fun e w' => e = .returned (.bool (decide (xs = ys))) ∧ Below w.heap.size w w' := by
  by_cases hne : xs.length = ys.length
  · obtain ⟨l, hxl⟩ : ∃ l, xs.length = l := ⟨_, rfl⟩
    rw [← hne, hxl]
    rw [hxl] at hne hl
    have HA := Lib.hid ha
    have HB := Lib.hid hb
    have HXL := Lib.hid hxl
    have HYL := Lib.hid hne
    clear ha hb hxl hne hl'
    go_enter Try.func47, Try.ntmps47
    go_wp2_with fail
    go_loopw [5] (fun i wr => ∃ k : Nat, k ≤ l ∧ i = .int .i64 k ∧ (∀ j : Nat, j < k → xs[j]? = ys[j]?) ∧ ∃ nn, wr = w.drewN nn) (fun i _ => l - (intOf i).toNat)
    case atStart => exact ⟨0, Nat.zero_le _, rfl, fun j hj => absurd hj (Nat.not_lt_zero _), 0, rfl⟩
    case round =>
      obtain ⟨k, hk, rfl, heq, nn, rfl⟩ := hrel
      by_cases hlt : k < l
      · obtain ⟨ga, oa, rfl, hga, ca⟩ := HA.out.2 (by rw [HXL.out]; omega)
        obtain ⟨gb, ob, rfl, hgb, cb⟩ := HB.out.2 (by rw [← HYL.out]; omega)
        obtain ⟨x, hx⟩ : ∃ x, xs[k]? = some x := ⟨xs[k]'(by rw [HXL.out]; exact hlt), List.getElem?_eq_getElem (by rw [HXL.out]; exact hlt)⟩
        obtain ⟨y, hy⟩ : ∃ y, ys[k]? = some y := ⟨ys[k]'(by rw [← HYL.out]; exact hlt), List.getElem?_eq_getElem (by rw [← HYL.out]; exact hlt)⟩
        have r1 := ca k (by rw [HXL.out]; exact hlt)
        have r2 := cb k (by rw [← HYL.out]; exact hlt)
        obtain ⟨d0, d1⟩ := I2.inA_get hx
        obtain ⟨g0, g1⟩ := I2.inA_get hy
        rw [d0, d1] at r1
        rw [g0, g1] at r2
        have hbx := HA.out.1 _ (List.mem_of_getElem? hx)
        have hby := HB.out.1 _ (List.mem_of_getElem? hy)
        have i1 : (0 : Int) ≤ (k : Int) := by omega
        have i2 : (k : Int) < (l : Int) := by omega
        have hEq0 := fun W => in_eql W _ _ hbx hby
        have HX := Lib.hid hx
        have HY := Lib.hid hy
        clear ca cb hx hy d0 d1 g0 g1
        obtain ⟨x0, x1⟩ := x
        obtain ⟨y0, y1⟩ := y
        obtain ⟨ra0, ra1⟩ := r1
        obtain ⟨rb0, rb1⟩ := r2
        by_cases hv : (x0, x1) = (y0, y1)
        · have HE := Lib.hid (show ∀ j : Nat, j < k + 1 → xs[j]? = ys[j]? from fun j hj => by
            rcases Nat.lt_or_ge j k with h | h
            · exact heq j h
            · obtain rfl : j = k := by omega
              rw [HX.out, HY.out, hv])
          have hEq : ∀ W, (Op.equalIn 10000 48 (.agg #[.int .u16 (x0 : Int), .int .u16 (x1 : Int)]) (.agg #[.int .u16 (y0 : Int), .int .u16 (y1 : Int)])).run Try.prog W = .ok true W := fun W => by
            have := hEq0 W
            rw [decide_eq_true hv] at this
            exact this
          clear heq hv hEq0
          go_wp2_with fail
          go_quiet (fail)
          go_wp2_with fail
          go_roundw
          case rel => exact ⟨k + 1, by omega, by go_num, HE.out, _, rfl⟩
          case measure => simp [intOf]; omega
        · have HD := Lib.hid (show decide (xs = ys) = false from decide_eq_false fun e => hv (by
            have h1 := HX.out
            rw [e, HY.out] at h1
            exact (Option.some.inj h1).symm))
          have hEq : ∀ W, (Op.equalIn 10000 48 (.agg #[.int .u16 (x0 : Int), .int .u16 (x1 : Int)]) (.agg #[.int .u16 (y0 : Int), .int .u16 (y1 : Int)])).run Try.prog W = .ok false W := fun W => by
            have := hEq0 W
            rw [decide_eq_false hv] at this
            exact this
          clear heq hEq0 hv
          go_wp2_with fail
          go_quiet (fail)
          go_wp2_with fail
          go_ret
          exact ⟨ret_bool (by rw [HD.out]), below_drewN (below_drewN (Below.refl _ _) _) _⟩
      · obtain rfl : k = l := by omega
        have HD := Lib.hid (show decide (xs = ys) = true from decide_eq_true (List.ext_getElem? fun j => by
          rcases Nat.lt_or_ge j k with h | h
          · exact heq j h
          · rw [List.getElem?_eq_none (by rw [HXL.out]; exact h), List.getElem?_eq_none (by rw [← HYL.out]; exact h)]))
        clear heq
        go_wp2_with fail
        go_ret
        exact ⟨ret_bool (by rw [HD.out]), below_drewN (Below.refl _ _) _⟩
  · have i1 : ¬ (xs.length : Int) = (ys.length : Int) := by omega
    have HD := Lib.hid (show decide (xs = ys) = false from decide_eq_false fun e => hne (by rw [e]))
    obtain ⟨l, hxl⟩ : ∃ l, xs.length = l := ⟨_, rfl⟩
    obtain ⟨m, hyl⟩ : ∃ m, ys.length = m := ⟨_, rfl⟩
    rw [hxl, hyl] at i1 ⊢
    clear hne hxl hyl ha hb
    go_enter Try.func47, Try.ntmps47
    go_wp2_with fail
    go_ret
    exact ⟨ret_bool (by rw [HD.out]), Below.refl _ _⟩
end Go.Proofs.Ytblnfkhaicjeaaa.Spe
namespace Go.Proofs.Ytblnfkhaicjeaaa.Spe
open Go.RowKit Go.Shelf Go.Proofs.Ytblnfkhaicjeaaa.Byt Go.Proofs.Ytblnfkhaicjeaaa.Gm Go.Proofs.Ytblnfkhaicjeaaa.RingE Go.Proofs.Ytblnfkhaicjeaaa.Crc
set_option linter.all false
attribute [local go_sem] Oper.semAt_some

def ex3 : List (Nat × Nat) := [(1, 2), (1, 2), (1, 2)]
theorem ex3_bytes : tapeB 1 ex3 = [66, 84, 0, 0, 0, 1, 0, 0, 0, 3, 3, 0, 1, 0, 2] := by decide
set_option maxRecDepth 100000 in
set_option maxHeartbeats 4000000 in
theorem awake31 (w : World) : Calls Try.prog 42 #[] w fun e w' => e = .returned (.bool true) ∧ Below w.heap.size w w' := by
  obtain ⟨W1, hW1⟩ : ∃ W1, W1 = (w.alloc (.cells #[.int .u16 1, .int .u16 2, .int .u16 1, .int .u16 2, .int .u16 1, .int .u16 2] 48)).alloc (.cells #[.int .u32 1, .slice (some ⟨w.heap.size, 0, none⟩) 3 3] 89) := ⟨_, rfl⟩
  have hL : Blk W1 w.heap.size 48 #[.int .u16 1, .int .u16 2, .int .u16 1, .int .u16 2, .int .u16 1, .int .u16 2] := by rw [hW1]; exact (Blk.new w _ _).alloc _
  have hX : Blk W1 (w.heap.size + 1) 89 #[.int .u32 1, .slice (some ⟨w.heap.size, 0, none⟩) 3 3] := by
    rw [hW1]
    have := Blk.new (w.alloc (.cells #[.int .u16 1, .int .u16 2, .int .u16 1, .int .u16 2, .int .u16 1, .int .u16 2] 48)) 89 #[.int .u32 1, .slice (some ⟨w.heap.size, 0, none⟩) 3 3]
    simpa using this
  have hB : Below w.heap.size w W1 := by rw [hW1]; exact ((Below.refl _ w).alloc (Nat.le_refl _) _).alloc (by simp) _
  have hrow : InRow W1 (some ⟨w.heap.size, 0, none⟩) ex3 := ⟨by intro x hx; simp [ex3] at hx; rcases hx with rfl; simp, fun _ => ⟨w.heap.size, 0, rfl, hL.lt, fun j hj => by
    rw [Nat.zero_add, hL.cell, hL.cell]
    match j, hj with
    | 0, _ => exact ⟨rfl, rfl⟩
    | 1, _ => exact ⟨rfl, rfl⟩
    | 2, _ => exact ⟨rfl, rfl⟩⟩⟩
  have HROW := Lib.hid hrow
  have pN := Lib.hid (fun W => cnew_any W)
  have pB' : ∀ (W : World) (g : Nat), Crc.Rows W g 256 → InRow W (some ⟨w.heap.size, 0, none⟩) ex3 → Calls Try.prog 44 #[.agg #[.int .u32 1, .slice (some ⟨w.heap.size, 0, none⟩) 3 3], .pointer (some ⟨g, 0, none⟩)] W fun e w' => ∃ a c, e = .returned (.tuple #[.slice a 19 c, .int .i64 0]) ∧ 19 ≤ c ∧ c ≤ 9223372036854775807 ∧ Row .u8 w' a 19 (sealB (tapeB 1 ex3)) ∧ Below W.heap.size W w' := fun W g hT hr =>
    (tbytes_any W g hT 1 (some ⟨w.heap.size, 0, none⟩) 3 ex3 hr (by simp [ex3]) (by omega) (by omega)).mono (by
      rintro e w' ⟨v, rfl, hon, hb, hown⟩
      have hl : (sealB (tapeB 1 ex3)).length = 19 := by rw [sealB_len, ex3_bytes]; rfl
      obtain ⟨a, c, rfl, h1, h2, h3⟩ := out_rowc (xs := sealB (tapeB 1 ex3)) (by unfold Out; rw [sealB_len]; exact hon)
      rw [hl] at h1 h3
      exact ⟨a, c, by rw [hl], h1, h2, h3, hb⟩)
  have pB := Lib.hid pB'
  clear pB'
  have HB := Lib.hid hB
  have HX := Lib.hid hX
  have t0 : W1.drew.cell? ⟨w.heap.size + 1, 0, none⟩ = some (.int .u32 1) := hX.cell 0
  have t1 : W1.drew.cell? ⟨w.heap.size + 1, 1, none⟩ = some (.slice (some ⟨w.heap.size, 0, none⟩) 3 3) := hX.cell 1
  have hBd : Below W1.heap.size W1 W1.drew := (Below.refl _ W1).drew
  clear hL hX hB hrow
  go_enter Try.func42, Try.ntmps42
  go_upto_region 2 with fail
  rw [← hW1]
  clear hW1
  go_region_held3 (fun W => W.cell? ⟨w.heap.size + 1, 0, none⟩ = some (.int .u32 1) ∧ W.cell? ⟨w.heap.size + 1, 1, none⟩ = some (.slice (some ⟨w.heap.size, 0, none⟩) 3 3)) (first | exact ⟨t0, t1⟩ | exact ⟨k0, k1⟩ | exact ⟨m0, m1⟩ | fail "no keep")
    (first
      | (go_at_call 43; (with_reducible refine (pN.out _).mono ?_); rintro e w2 ⟨rfl, hT, b2⟩; have hT' : Crc.Rows w2 W1.heap.size 256 := hT; have B2 := hBd.trans (b2.mono hBd.size); have k0 : w2.cell? ⟨w.heap.size + 1, 0, none⟩ = some (.int .u32 1) := (HX.out.below B2 HX.out.lt).cell 0; have k1 : w2.cell? ⟨w.heap.size + 1, 1, none⟩ = some (.slice (some ⟨w.heap.size, 0, none⟩) 3 3) := (HX.out.below B2 HX.out.lt).cell 1)
      | (go_at_call 44; (with_reducible refine (pB.out _ _ hT' (inRow_pre HROW.out B2)).mono ?_); rintro e w3 ⟨a3, c3, rfl, hc3, hc33, hrow3, b3⟩; have B3 := B2.trans (b3.mono B2.size); have m0 : w3.cell? ⟨w.heap.size + 1, 0, none⟩ = some (.int .u32 1) := (HX.out.below B3 HX.out.lt).cell 0; have m1 : w3.cell? ⟨w.heap.size + 1, 1, none⟩ = some (.slice (some ⟨w.heap.size, 0, none⟩) 3 3) := (HX.out.below B3 HX.out.lt).cell 1)
      | fail "no arm")
  have hl15 : (tapeB 1 ex3).length = 15 := by rw [ex3_bytes]; rfl
  have hrow15 : Row .u8 w3 a3 15 (tapeB 1 ex3) := by
    obtain ⟨b, off, rfl, hbl, hcl⟩ := hrow3.2 (by omega)
    have := row_sub hrow3 0 15 (by omega)
    rw [Nat.add_zero, List.drop_zero] at this
    rw [show (sealB (tapeB 1 ex3)).take 15 = tapeB 1 ex3 by unfold sealB; rw [← hl15]; exact List.take_left] at this
    exact this
  have HROW15 := Lib.hid hrow15
  have k15 : (15 : Int) ≤ (c3 : Int) := by omega
  have pS : Hid (∀ (cc : Nat) (W : World), Below w3.heap.size w3 W → Blk W w3.heap.size 5 #[.int .u8 66, .int .u8 84, .int .u8 0, .int .u8 0, .int .u8 0, .int .u8 1, .int .u8 0, .int .u8 0, .int .u8 0, .int .u8 3, .int .u8 3, .int .u8 0, .int .u8 1, .int .u8 0, .int .u8 2] → Calls Try.prog 21 #[.slice a3 15 cc, .slice (some ⟨w3.heap.size, 0, none⟩) 15 15] W fun e w' => e = .returned (.bool true) ∧ Below W.heap.size W w') := Lib.hid (fun cc W hb hX => by
    have hr2 : Row .u8 W (some ⟨w3.heap.size, 0, none⟩) 15 (tapeB 1 ex3) := ⟨hl15, fun _ => ⟨w3.heap.size, 0, rfl, hX.lt, fun j hj => by
      rw [Nat.zero_add, hX.cell, ex3_bytes]
      match j, hj with
      | 0, _ => rfl
      | 1, _ => rfl
      | 2, _ => rfl
      | 3, _ => rfl
      | 4, _ => rfl
      | 5, _ => rfl
      | 6, _ => rfl
      | 7, _ => rfl
      | 8, _ => rfl
      | 9, _ => rfl
      | 10, _ => rfl
      | 11, _ => rfl
      | 12, _ => rfl
      | 13, _ => rfl
      | 14, _ => rfl⟩⟩
    have := same_any W a3 (some ⟨w3.heap.size, 0, none⟩) 15 15 cc 15 _ _ (HROW15.out.below hb) hr2 (by omega) (by omega)
    rw [decide_eq_true rfl] at this
    exact this)
  have BT := HB.out.trans (B3.mono HB.out.size)
  clear hrow3 hrow15 k0 k1 m0 m1 hT hT' hBd
  go_wp2_with (first | (go_at_call 21; (with_reducible refine (pS.out _ _ ((Below.refl _ w3).alloc (Nat.le_refl _) _) (Blk.new w3 _ _)).mono ?_); rintro e w4 ⟨rfl, b4⟩) | fail)
  go_ret
  exact ⟨rfl, BT.trans (((Below.refl _ w3).alloc (Nat.le_refl _) _).trans (b4.mono (by simp)) |>.mono BT.size)⟩
end Go.Proofs.Ytblnfkhaicjeaaa.Spe
namespace Go.Proofs.Ytblnfkhaicjeaaa.Spe
open Go.RowKit Go.Shelf Go.Proofs.Ytblnfkhaicjeaaa.Byt Go.Proofs.Ytblnfkhaicjeaaa.Gm Go.Proofs.Ytblnfkhaicjeaaa.RingE Go.Proofs.Ytblnfkhaicjeaaa.Crc
set_option linter.all false
attribute [local go_sem] Oper.semAt_some

set_option maxRecDepth 100000 in
set_option maxHeartbeats 8000000 in
theorem bytes_law (w : World) (sd : Nat) (hs : sd < 4294967296) (a : Option Addr) (cap : Nat) (ls : List (Nat × Nat)) (hr : InRow w a ls) (hl : ls.length ≤ 9223372036854775807) :
    Calls Try.prog 12 #[.agg #[.int .u32 (sd : Int), .slice a ls.length cap]] w fun e w' => e = .returned (.bool true) ∧ Below w.heap.size w w' := by
  obtain ⟨l, hll⟩ : ∃ l, ls.length = l := ⟨_, rfl⟩
  rw [hll]
  obtain ⟨W1, hW1⟩ : ∃ W1, W1 = w.alloc (.cells #[.int .u32 (sd : Int), .slice a l cap] 89) := ⟨_, rfl⟩
  have hX : Blk W1 w.heap.size 89 #[.int .u32 (sd : Int), .slice a l cap] := by rw [hW1]; exact Blk.new _ _ _
  have hB : Below w.heap.size w W1 := by rw [hW1]; exact (Below.refl _ w).alloc (Nat.le_refl _) _
  have HX := Lib.hid hX
  have HB := Lib.hid hB
  have HR := Lib.hid hr
  have HL := Lib.hid hll
  have pA := Lib.hid (awake31 W1)
  have pN := Lib.hid (fun W => cnew_any W)
  have hl' : l ≤ 9223372036854775807 := by omega
  have hls : (l : Int) ≤ 9223372036854775807 := by omega
  have hX0 := hX.lt
  have hz1 := hB.size
  clear hX hB hr hll hl
  go_enter Try.func12, Try.ntmps12
  go_upto_region 1 with fail
  rw [← hW1]
  clear hW1
  go_wp2_with fail
  refine pA.out.mono ?_
  rintro e w2 ⟨rfl, b2⟩
  have X2 := HX.out.below b2 hX0
  have x21 : w2.cell? ⟨w.heap.size, 1, none⟩ = some (.slice a l cap) := X2.cell 1
  have HB2 := Lib.hid (HB.out.trans (b2.mono hz1))
  have HX2 := Lib.hid X2
  clear X2 b2 pA
  by_cases h20 : 20000 < l
  · have h20' : (20000 : Int) < (l : Int) := by omega
    go_wp2_with fail
    go_ret
    exact ⟨rfl, HB2.out⟩
  have h20' : ¬ (20000 : Int) < (l : Int) := by omega
  go_wp2_with fail
  refine (pN.out _).mono ?_
  rintro e w3 ⟨rfl, hT, b3⟩
  have HT := Lib.hid hT
  have HX3 := Lib.hid (HX2.out.below b3 HX2.out.lt)
  have x30 : w3.cell? ⟨w.heap.size, 0, none⟩ = some (.int .u32 (sd : Int)) := HX3.out.cell 0
  have x31 : w3.cell? ⟨w.heap.size, 1, none⟩ = some (.slice a l cap) := HX3.out.cell 1
  have HB3 := Lib.hid (HB2.out.trans (b3.mono HB2.out.size))
  clear hT b3 x21
  by_cases hlong : 16384 < l
  · have pL := Lib.hid (tbytes_long w3 w2.heap.size (sd : Int) a l cap hlong hl')
    have hlong' : (16384 : Int) < (l : Int) := by omega
    go_wp2_with fail
    refine pL.out.mono ?_
    rintro e w4 ⟨rfl, b4⟩
    have HX4 := Lib.hid (HX3.out.below b4 HX3.out.lt)
    have x41 : w4.cell? ⟨w.heap.size, 1, none⟩ = some (.slice a l cap) := HX4.out.cell 1
    have HB4 := Lib.hid (HB3.out.trans (b4.mono HB3.out.size))
    clear b4 x30 x31
    go_wp2_with fail
    go_ret
    exact ⟨rfl, HB4.out⟩
  have hlong' : ¬ (16384 : Int) < (l : Int) := by omega
  obtain ⟨Z, hZ⟩ : ∃ Z, Z = sealB (tapeB (sd : Int) ls) := ⟨_, rfl⟩
  obtain ⟨n, hn⟩ : ∃ n, n = (tapeB (sd : Int) ls).length + 4 := ⟨_, rfl⟩
  have hzn : Z.length = n := by rw [hZ, hn, sealB_len]
  have hn2 : n ≤ 1000000 := by
    have := runsL_len _ ls (Nat.le_refl _)
    have h0 := HL.out
    rw [hn]
    unfold tapeB
    rw [List.length_append, Spe.flat_len]
    simp [headB, be2, be4]
    omega
  have hzb : ∀ z ∈ Z, 0 ≤ z ∧ z < 256 := by rw [hZ]; exact sealB_byte (tapeB_byte _ _)
  have pB' : Calls Try.prog 44 #[.agg #[.int .u32 (sd : Int), .slice a l cap], .pointer (some ⟨w2.heap.size, 0, none⟩)] w3 fun e w' => ∃ a c, e = .returned (.tuple #[.slice a n c, .int .i64 0]) ∧ n ≤ c ∧ c ≤ 9223372036854775807 ∧ Row .u8 w' a n Z ∧ Below w3.heap.size w3 w' := by
    have := tbytes_any w3 w2.heap.size HT.out (sd : Int) a cap ls (inRow_pre HR.out HB3.out) (by rw [HL.out]; omega) (by omega) (by omega)
    rw [HL.out] at this
    refine this.mono ?_
    rintro e w' ⟨v, rfl, hon, hb, hown⟩
    obtain ⟨a, c, rfl, h1, h2, h3⟩ := out_rowc (xs := Z) (by unfold Out; rw [hzn, hZ, hn]; exact hon)
    rw [hzn] at h1 h3
    exact ⟨a, c, by rw [hzn], h1, h2, h3, hb⟩
  have hown : ParseR Z sd ls 0 := by rw [hZ]; exact parse_own hs HR.out.1 (by rw [HL.out]; omega)
  have pP' : ∀ (W : World) (a' : Option Addr) (c' : Nat), Crc.Rows W w2.heap.size 256 → Row .u8 W a' n Z → n ≤ c' → c' ≤ 9223372036854775807 → Calls Try.prog 45 #[.pointer (some ⟨w2.heap.size, 0, none⟩), .slice a' n c'] W fun e w' => ∃ a c, e = .returned (.tuple #[.agg #[.int .u32 (sd : Int), .slice a l c], .int .i64 0]) ∧ InRow w' a ls ∧ Below W.heap.size W w' := fun W a' c' hT hrw h1 h2 =>
    (parse_any W w2.heap.size hT a' n c' Z hrw hzb hn2 h1 h2).mono (by
      rintro e w' ⟨sd', ls', code, a, c, rfl, hin, hpr, hb⟩
      obtain ⟨rfl, rfl, rfl⟩ := parseR_inj hown hpr
      exact ⟨a, c, by rw [HL.out], hin, hb⟩)
  have pR' : ∀ (W : World), InRow W a ls → Calls Try.prog 46 #[.int .u32 (sd : Int), .slice a l cap] W fun e w' => ∃ a c, e = .returned (.slice a n c) ∧ Row .u8 w' a n Z ∧ Below W.heap.size W w' := fun W h => by
    have := rtbytes_any W sd a cap ls h (by rw [HL.out]; omega) hs
    rw [HL.out] at this
    refine this.mono ?_
    rintro e w' ⟨v, rfl, hon, hb, hown⟩
    obtain ⟨a, c, rfl, h1, h2, h3⟩ := out_rowc (xs := Z) (by unfold Out; rw [hzn, hZ, hn]; exact hon)
    rw [hzn] at h1 h3
    exact ⟨a, c, by rw [hzn], h3, hb⟩
  have pS' : ∀ (W : World) (a a' : Option Addr) (c c' : Nat), Row .u8 W a n Z → Row .u8 W a' n Z → Calls Try.prog 21 #[.slice a n c, .slice a' n c'] W fun e w' => e = .returned (.bool true) ∧ Below W.heap.size W w' := fun W a a' c c' h1 h2 => by
    have := same_any W a a' n n c c' Z Z h1 h2 (by omega) (by omega)
    rw [decide_eq_true rfl] at this
    exact this
  have pE' : ∀ (W : World) (a a' : Option Addr) (c c' : Nat), InRow W a ls → InRow W a' ls → Calls Try.prog 47 #[.slice a l c, .slice a' l c'] W fun e w' => e = .returned (.bool true) ∧ Below W.heap.size W w' := fun W a a' c c' h1 h2 => by
    have := same31_any W a a' c c' ls ls h1 h2 (by rw [HL.out]; exact hl') (by rw [HL.out]; exact hl')
    rw [decide_eq_true rfl, HL.out] at this
    exact this
  have pB := Lib.hid pB'
  have pP := Lib.hid pP'
  have pR := Lib.hid pR'
  have pS := Lib.hid pS'
  have pE := Lib.hid pE'
  clear pB' pP' pR' pS' pE' hown hzb hZ hn hzn pN
  go_wp2_with fail
  refine pB.out.mono ?_
  rintro e w4 ⟨a4, c4, rfl, hc4, hc44, hrow4, b4⟩
  have HX4 := Lib.hid (HX3.out.below b4 HX3.out.lt)
  have x41 : w4.cell? ⟨w.heap.size, 1, none⟩ = some (.slice a l cap) := HX4.out.cell 1
  have HB4 := Lib.hid (HB3.out.trans (b4.mono HB3.out.size))
  have HT4 := Lib.hid (HT.out.below b4)
  have HR4 := Lib.hid hrow4
  clear b4 x30 x31 hrow4
  go_wp2_with fail
  refine (pP.out _ _ _ HT4.out HR4.out hc4 hc44).mono ?_
  rintro e w5 ⟨a5, c5, rfl, hin5, b5⟩
  obtain ⟨W6, hW6⟩ : ∃ W6, W6 = w5.alloc (.cells #[.int .u32 (sd : Int), .slice a5 l c5] 89) := ⟨_, rfl⟩
  have hY6 : Blk W6 w5.heap.size 89 #[.int .u32 (sd : Int), .slice a5 l c5] := by rw [hW6]; exact Blk.new _ _ _
  have b56 : Below w5.heap.size w5 W6 := by rw [hW6]; exact (Below.refl _ w5).alloc (Nat.le_refl _) _
  have b6 : Below w4.heap.size w4 W6 := b5.trans (b56.mono b5.size)
  have HX6 := Lib.hid (HX4.out.below b6 HX4.out.lt)
  have HB6 := Lib.hid (HB4.out.trans (b6.mono HB4.out.size))
  have HR6 := Lib.hid (HR4.out.below b6)
  have HIN6 := Lib.hid (inRow_pre hin5 b56)
  have HY6 := Lib.hid hY6
  have x60 : W6.cell? ⟨w.heap.size, 0, none⟩ = some (.int .u32 (sd : Int)) := HX6.out.cell 0
  have x61 : W6.cell? ⟨w.heap.size, 1, none⟩ = some (.slice a l cap) := HX6.out.cell 1
  clear b5 b56 b6 hin5 hY6
  go_upto_region 10 with fail
  rw [← hW6]
  clear hW6 x41
  go_wp2_with fail
  refine (pR.out _ (inRow_pre HR.out HB6.out)).mono ?_
  rintro e w7 ⟨a7, c7, rfl, hrow7, b7⟩
  have p7 := Lib.hid (pS.out w7 a4 a7 c4 c7 (HR6.out.below b7) hrow7)
  have HB7 := Lib.hid (HB6.out.trans (b7.mono HB6.out.size))
  have HX7 := Lib.hid (HX6.out.below b7 HX6.out.lt)
  have HY7 := Lib.hid (HY6.out.below b7 HY6.out.lt)
  have HIN7 := Lib.hid (inRow_pre HIN6.out b7)
  clear hrow7 b7 x60 x61
  go_wp2_with fail
  refine p7.out.mono ?_
  rintro e w8 ⟨rfl, b8⟩
  have HB8 := Lib.hid (HB7.out.trans (b8.mono HB7.out.size))
  have hX8 := HX7.out.below b8 HX7.out.lt
  have hY8 := HY7.out.below b8 HY7.out.lt
  have x80 : w8.cell? ⟨w.heap.size, 0, none⟩ = some (.int .u32 (sd : Int)) := hX8.cell 0
  have x81 : w8.cell? ⟨w.heap.size, 1, none⟩ = some (.slice a l cap) := hX8.cell 1
  have y80 : w8.cell? ⟨w5.heap.size, 0, none⟩ = some (.int .u32 (sd : Int)) := hY8.cell 0
  have y81 : w8.cell? ⟨w5.heap.size, 1, none⟩ = some (.slice a5 l c5) := hY8.cell 1
  have p8 := Lib.hid (pE.out w8 a5 a c5 cap (inRow_pre HIN7.out b8) (inRow_pre HR.out HB8.out))
  clear b8 hX8 hY8
  go_wp2_with fail
  refine p8.out.mono ?_
  rintro e w9 ⟨rfl, b9⟩
  go_wp2_with fail
  go_ret
  exact ⟨rfl, HB8.out.trans (b9.mono HB8.out.size)⟩
end Go.Proofs.Ytblnfkhaicjeaaa.Spe
