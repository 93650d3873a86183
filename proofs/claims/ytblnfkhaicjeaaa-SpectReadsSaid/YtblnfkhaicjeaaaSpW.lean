/-
  backstaylaw31.SpectReads. Conditions: bytes that lie in memory.
-/
import Derived.Test.YtblnfkhaicjeaaaSpV
namespace Go.Proofs.Ytblnfkhaicjeaaa.Spe
open Go.RowKit Go.Shelf Go.Proofs.Ytblnfkhaicjeaaa.Byt Go.Proofs.Ytblnfkhaicjeaaa.Gm Go.Proofs.Ytblnfkhaicjeaaa.RingE Go.Proofs.Ytblnfkhaicjeaaa.Crc
set_option linter.all false
attribute [local go_sem] Oper.semAt_some

theorem parseR_len {zs : List Int} {sd : Nat} {ls : List (Nat × Nat)} {c : Int} (h : ParseR zs sd ls c) : ls.length ≤ 16384 := by
  unfold ParseR HeadR at h
  split at h
  · split at h
    · rw [h.2.2]; simp
    · split at h
      · rw [h.2.2]; simp
      · split at h
        · rw [h.2.2]; simp
        · rcases h with ⟨_, h⟩ | ⟨_, _, h, _⟩
          · exact h.2.2.1
          · rw [h]; simp
  · rw [h.2.2]; simp
/-- The two slices that are read. -/
structure Src2 (W3 : World) (a : Option Addr) (l c : Nat) (zs : List Int) : Prop where
  row : Row .u8 W3 a l zs
  byte : ∀ z ∈ zs, 0 ≤ z ∧ z < 256
  le : l ≤ 4000
  cap : l ≤ c
  max : c ≤ 9223372036854775807

set_option maxRecDepth 100000 in
set_option maxHeartbeats 8000000 in
theorem reads_law (w : World) (a : Option Addr) (l c : Nat) (zs : List Int) (hrow : Row .u8 w a l zs) (hz : ∀ z ∈ zs, 0 ≤ z ∧ z < 256) (hc : l ≤ c) (hc2 : c ≤ 9223372036854775807) :
    Calls Try.prog 13 #[.slice a l c] w fun e w' => e = .returned (.bool true) ∧ Below w.heap.size w w' := by
  have pA := Lib.hid (awake31 w)
  have HROW := Lib.hid hrow
  clear hrow
  go_enter Try.func13, Try.ntmps13
  go_wp2_with fail
  refine pA.out.mono ?_
  rintro e w1 ⟨rfl, b1⟩
  have HB1 := Lib.hid b1
  clear pA b1
  by_cases hlong : 3000 < l
  · have h1 : (3000 : Int) < (l : Int) := by omega
    go_wp2_with fail
    go_ret
    exact ⟨rfl, HB1.out⟩
  have h1 : ¬ (3000 : Int) < (l : Int) := by omega
  have pS := Lib.hid (rseal_any w1 a l c zs (HROW.out.below HB1.out) hz (by omega))
  obtain ⟨n, hn⟩ : ∃ n, n = l + 4 := ⟨_, rfl⟩
  rw [← hn] at pS
  have HN := Lib.hid hn
  have hn2 : n ≤ 4000 := by omega
  clear hn
  go_wp2_with fail
  refine pS.out.mono ?_
  rintro e w2 ⟨v2, rfl, hv2, b2, _⟩
  have hzl := HROW.out.1
  obtain ⟨a2, c2, hv, hc3, hc4, hrow2⟩ := out_rowc (xs := sealB zs) (by unfold Out; rw [sealB_len, hzl, ← HN.out]; exact hv2)
  have hsl : (sealB zs).length = n := by rw [sealB_len, hzl, ← HN.out]
  rw [hsl] at hv hc3 hrow2
  subst hv
  have HB2 := Lib.hid (HB1.out.trans (b2.mono HB1.out.size))
  obtain ⟨W3, hW3⟩ : ∃ W3, W3 = w2.alloc (.cells #[.slice a l c, .slice a2 n c2] 40) := ⟨_, rfl⟩
  have hX : Blk W3 w2.heap.size 40 #[.slice a l c, .slice a2 n c2] := by rw [hW3]; exact Blk.new _ _ _
  have b23 : Below w2.heap.size w2 W3 := by rw [hW3]; exact (Below.refl _ w2).alloc (Nat.le_refl _) _
  have HB3 := Lib.hid (HB2.out.trans (b23.mono HB2.out.size))
  have S0 := Lib.hid (⟨HROW.out.below HB3.out, hz, by omega, hc, hc2⟩ : Src2 W3 a l c zs)
  have S1 := Lib.hid (⟨hrow2.below b23, sealB_byte hz, hn2, hc3, hc4⟩ : Src2 W3 a2 n c2 (sealB zs))
  have HX := Lib.hid hX
  have pN := Lib.hid (fun W => cnew_any W)
  clear hX b23 hrow2 hsl hv2 b2 hzl pS
  go_upto_region 6 with fail
  rw [← hW3]
  clear hW3
  go_loopw [20] (fun iv wr => ∃ k : Nat, k ≤ 2 ∧ iv = .int .i64 (k : Int) ∧ Below W3.heap.size W3 wr) (fun iv _ => (2 - intOf iv).toNat)
  case atStart => exact ⟨0, by omega, rfl, Below.refl _ _⟩
  case round =>
    obtain ⟨k, hk, rfl, hB⟩ := hrel
    by_cases hlt : k < 2
    · have hsel : ∃ ab lb cb Zb, W3.cell? ⟨w2.heap.size, k, none⟩ = some (.slice ab lb cb) ∧ Src2 W3 ab lb cb Zb := by
        match k, hlt with
        | 0, _ => exact ⟨a, l, c, zs, HX.out.cell 0, S0.out⟩
        | 1, _ => exact ⟨a2, n, c2, sealB zs, HX.out.cell 1, S1.out⟩
      obtain ⟨ab, lb, cb, Zb, hcell, hS⟩ := hsel
      have hcl : wr.cell? ⟨w2.heap.size, k, none⟩ = some (.slice ab lb cb) := (hB.cell HX.out.lt).trans hcell
      have k0 : (0 : Int) ≤ (k : Int) := by omega
      have k2 : (k : Int) < 2 := by omega
      have HS := Lib.hid hS
      have HBW := Lib.hid hB
      clear hS hB hcell
      generalize wr = V at *
      go_wp2_with fail
      refine (pN.out _).mono ?_
      rintro e w4 ⟨rfl, hT, b4⟩
      have B4 := HBW.out.trans (b4.mono HBW.out.size)
      have hS := HS.out
      have pP := Lib.hid (parse_any w4 V.heap.size hT ab lb cb Zb (hS.row.below B4) hS.byte (by have := hS.le; omega) hS.cap hS.max)
      have HB4 := Lib.hid B4
      clear hS hT b4 B4 hcl
      go_wp2_with fail
      refine pP.out.mono ?_
      rintro e w5 ⟨sd, ls, code, a5, c5, rfl, hin5, hpr5, b5⟩
      obtain ⟨W6, hW6⟩ : ∃ W6, W6 = w5.alloc (.cells #[.int .u32 (sd : Int), .slice a5 ls.length c5] 89) := ⟨_, rfl⟩
      have hY6 : Blk W6 w5.heap.size 89 #[.int .u32 (sd : Int), .slice a5 ls.length c5] := by rw [hW6]; exact Blk.new _ _ _
      have b56 : Below w5.heap.size w5 W6 := by rw [hW6]; exact (Below.refl _ w5).alloc (Nat.le_refl _) _
      have B6 := (HB4.out.trans (b5.mono HB4.out.size)).trans (b56.mono (Nat.le_trans HB4.out.size b5.size))
      have hS := HS.out
      have pR := Lib.hid (rparse_any W6 ab lb cb Zb (hS.row.below B6) hS.byte (by have := hS.le; omega) hS.cap hS.max)
      have HB6 := Lib.hid B6
      have HIN6 := Lib.hid (inRow_pre hin5 b56)
      have HY6 := Lib.hid hY6
      have HPR := Lib.hid hpr5
      have hll := parseR_len hpr5
      obtain ⟨m, hm⟩ : ∃ m, ls.length = m := ⟨_, rfl⟩
      have HM := Lib.hid hm
      rw [hm] at hW6 hY6 hll ⊢
      have HY6 := Lib.hid hY6
      clear hS B6 b56 hin5 hpr5 b5 hm hY6
      go_upto_region 9 with fail
      rw [← hW6]
      clear hW6
      go_wp2_with fail
      refine pR.out.mono ?_
      rintro e w7 ⟨sd', ls', code', a7, c7, rfl, hin7, hpr7, b7⟩
      obtain ⟨rfl, rfl, rfl⟩ := parseR_inj HPR.out hpr7
      rw [HM.out]
      have hY7 := HY6.out.below b7 HY6.out.lt
      have y0 : w7.cell? ⟨w5.heap.size, 0, none⟩ = some (.int .u32 (sd : Int)) := hY7.cell 0
      have y1 : w7.cell? ⟨w5.heap.size, 1, none⟩ = some (.slice a5 m c5) := hY7.cell 1
      have hsm := same31_any w7 a5 a7 c5 c7 ls ls (inRow_pre HIN6.out b7) hin7 (by rw [HM.out]; omega) (by rw [HM.out]; omega)
      rw [decide_eq_true rfl, HM.out] at hsm
      have pE := Lib.hid hsm
      have HB7 := Lib.hid (HB6.out.trans (b7.mono HB6.out.size))
      clear hsm hY7 b7 hin7 hpr7
      go_wp2_with fail
      refine pE.out.mono ?_
      rintro e w8 ⟨rfl, b8⟩
      have HB8 := Lib.hid (HB7.out.trans (b8.mono HB7.out.size))
      clear b8
      go_wp2_with fail
      exact ⟨⟨k + 1, by omega, by simp, HB8.out⟩, by simp [intOf]; omega⟩
    · obtain rfl : k = 2 := by omega
      have HBW := Lib.hid hB
      clear hB
      go_wp2_with fail
      go_ret
      exact ⟨rfl, HB3.out.trans (HBW.out.mono HB3.out.size)⟩
end Go.Proofs.Ytblnfkhaicjeaaa.Spe
