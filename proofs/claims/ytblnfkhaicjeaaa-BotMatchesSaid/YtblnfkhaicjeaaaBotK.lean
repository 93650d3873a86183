/-
  backstaylaw34.BotMatches.
-/
import Derived.Test.YtblnfkhaicjeaaaBotJ
namespace Go.Proofs.Ytblnfkhaicjeaaa.Bot
open Go.RowKit Go.Sort Go.Proofs.Ytblnfkhaicjeaaa.Num Go.Proofs.Ytblnfkhaicjeaaa.Gm Go.Proofs.Ytblnfkhaicjeaaa.Byt Go.Proofs.Ytblnfkhaicjeaaa.Eql
set_option linter.all false
attribute [local go_sem ↓] exec33 exec_st33
attribute [local go_sem] loadR_at cellsAt_drew

theorem ip50 : (Try.prog.info? 50).map (·.size) = some 3 := by kernel_rfl
theorem key48 : Try.prog.keyTypeAt 6 48 = true := by kernel_rfl
theorem tiled48 : Try.prog.tiled 6 48 = true := by kernel_rfl
theorem lits48 : (Try.prog.keyLits 6 48 [.int .u16 0, .int .u16 0]).isSome = true := by kernel_rfl
theorem guard48 : Try.prog.eqGuardType Try.prog.depth 48 = false := by kernel_rfl
theorem in_same (w : World) (n m : Nat) (hn : n < 65536) (hm : m < 65536) : (Op.equalIn 10000 48 (.agg #[.int .u16 n, .int .u16 m]) (.agg #[.int .u16 n, .int .u16 m])).run Try.prog w = .ok true w := by
  have hk : SameK [.int .u16 0, .int .u16 0] [Value.int .u16 n, .int .u16 m] := by
    refine ⟨rfl, fun i a b ha hb => ?_⟩
    match i with
    | 0 => cases ha; cases hb; exact .inr ⟨_, _, _, rfl, rfl, by simp [Lit.wf, IntKind.min, IntKind.max, IntKind.bits, IntKind.signed]; omega⟩
    | 1 => cases ha; cases hb; exact .inr ⟨_, _, _, rfl, rfl, by simp [Lit.wf, IntKind.min, IntKind.max, IntKind.bits, IntKind.signed]; omega⟩
    | j + 2 => simp at ha
  obtain ⟨r, hr, hi⟩ := eql_run (P := Try.prog) w (m := 6) (by decide) key48 tiled48 (by kernel_rfl) [.int .u16 0, .int .u16 0] lits48 (by kernel_rfl) (xs := #[.int .u16 n, .int .u16 m]) (ys := #[.int .u16 n, .int .u16 m]) hk hk
  rw [hi.2 rfl] at hr
  exact hr

set_option maxRecDepth 100000 in
set_option maxHeartbeats 8000000 in
theorem matches_law (w : World) (seed fr a0 s0 b0 a1 s1 b1 : Int) (h0 : 0 ≤ seed) (h1 : seed < 4294967296) (hs0 : 0 ≤ s0 ∧ s0 < 4294967296) (hs1 : 0 ≤ s1 ∧ s1 < 4294967296) (hfr : -9223372036854775808 ≤ fr ∧ fr ≤ 9223372036854775807) :
    Calls Try.prog 8 #[.int .u32 seed, .int .i64 fr, .agg #[.int .i64 a0, .int .u32 s0, .int .i64 b0, .int .i64 a1, .int .u32 s1, .int .i64 b1]] w fun e w' => e = .returned (.bool true) ∧ Below w.heap.size w w' := by
  have pA := Lib.hid (fun W => bawake_any W)
  have pR0 := Lib.hid (fun W => right_any a0 s0 b0 W)
  have pR1 := Lib.hid (fun W => right_any a1 s1 b1 W)
  have X0 := Lib.hid (Blk.new w 63 #[.int .i64 a0, .int .u32 s0, .int .i64 b0, .int .i64 a1, .int .u32 s1, .int .i64 b1])
  have B0 := Lib.hid ((Below.refl _ w).alloc (Nat.le_refl _) (.cells #[.int .i64 a0, .int .u32 s0, .int .i64 b0, .int .i64 a1, .int .u32 s1, .int .i64 b1] 63))
  go_enter Try.func8, Try.ntmps8
  go_wp2_with fail
  refine (pA.out _).mono ?_
  rintro e w1 ⟨rfl, b1'⟩
  have X1 := Blk.below X0.out b1' (Blk.lt X0.out)
  have L1 := Lib.hid (B0.out.trans (b1'.mono B0.out.size))
  have c0 : w1.cell? ⟨w.heap.size, 0, none⟩ = some (.int .i64 a0) := Blk.cell X1 0
  have c1 : w1.cell? ⟨w.heap.size, 1, none⟩ = some (.int .u32 s0) := Blk.cell X1 1
  have c2 : w1.cell? ⟨w.heap.size, 2, none⟩ = some (.int .i64 b0) := Blk.cell X1 2
  have c3 : w1.cell? ⟨w.heap.size, 3, none⟩ = some (.int .i64 a1) := Blk.cell X1 3
  have c4 : w1.cell? ⟨w.heap.size, 4, none⟩ = some (.int .u32 s1) := Blk.cell X1 4
  have c5 : w1.cell? ⟨w.heap.size, 5, none⟩ = some (.int .i64 b1) := Blk.cell X1 5
  have q1 := World.new_ne w1 _ c0
  have q3 : ¬ w.heap.size = w1.heap.size + 1 := by have := Blk.lt X1; omega
  have E1 := Lib.hid (⟨w1.heap.size, w1.heap.size + 1, rfl, rfl, Blk.drew ((Blk.new w1 50 #[.int .i64 a0, .int .u32 s0, .int .i64 b0]).alloc _), Blk.drew (by have := Blk.new (w1.alloc (.cells #[.int .i64 a0, .int .u32 s0, .int .i64 b0] 50)) 50 #[.int .i64 a1, .int .u32 s1, .int .i64 b1]; simpa using this), (((Below.refl _ w1).alloc (Nat.le_refl _) _).alloc (by simp) _).drew⟩ : ∃ g7 g8, (Value.pointer (some ⟨w1.heap.size, 0, none⟩)) = .pointer (some ⟨g7, 0, none⟩) ∧ (Value.pointer (some ⟨w1.heap.size + 1, 0, none⟩)) = .pointer (some ⟨g8, 0, none⟩) ∧ Blk (((w1.alloc (.cells #[.int .i64 a0, .int .u32 s0, .int .i64 b0] 50)).alloc (.cells #[.int .i64 a1, .int .u32 s1, .int .i64 b1] 50)).drew) g7 50 #[.int .i64 a0, .int .u32 s0, .int .i64 b0] ∧ Blk (((w1.alloc (.cells #[.int .i64 a0, .int .u32 s0, .int .i64 b0] 50)).alloc (.cells #[.int .i64 a1, .int .u32 s1, .int .i64 b1] 50)).drew) g8 50 #[.int .i64 a1, .int .u32 s1, .int .i64 b1] ∧ Below w1.heap.size w1 (((w1.alloc (.cells #[.int .i64 a0, .int .u32 s0, .int .i64 b0] 50)).alloc (.cells #[.int .i64 a1, .int .u32 s1, .int .i64 b1] 50)).drew))
  have E2 := Lib.hid (⟨w1.heap.size + 1, w1.heap.size, rfl, rfl, Blk.drew (by have := Blk.new (w1.alloc (.cells #[.int .i64 a1, .int .u32 s1, .int .i64 b1] 50)) 50 #[.int .i64 a0, .int .u32 s0, .int .i64 b0]; simpa using this), Blk.drew ((Blk.new w1 50 #[.int .i64 a1, .int .u32 s1, .int .i64 b1]).alloc _), (((Below.refl _ w1).alloc (Nat.le_refl _) _).alloc (by simp) _).drew⟩ : ∃ g7 g8, (Value.pointer (some ⟨w1.heap.size + 1, 0, none⟩)) = .pointer (some ⟨g7, 0, none⟩) ∧ (Value.pointer (some ⟨w1.heap.size, 0, none⟩)) = .pointer (some ⟨g8, 0, none⟩) ∧ Blk (((w1.alloc (.cells #[.int .i64 a1, .int .u32 s1, .int .i64 b1] 50)).alloc (.cells #[.int .i64 a0, .int .u32 s0, .int .i64 b0] 50)).drew) g7 50 #[.int .i64 a0, .int .u32 s0, .int .i64 b0] ∧ Blk (((w1.alloc (.cells #[.int .i64 a1, .int .u32 s1, .int .i64 b1] 50)).alloc (.cells #[.int .i64 a0, .int .u32 s0, .int .i64 b0] 50)).drew) g8 50 #[.int .i64 a1, .int .u32 s1, .int .i64 b1] ∧ Below w1.heap.size w1 (((w1.alloc (.cells #[.int .i64 a1, .int .u32 s1, .int .i64 b1] 50)).alloc (.cells #[.int .i64 a0, .int .u32 s0, .int .i64 b0] 50)).drew))
  clear X1 X0 b1' B0 pA
  go_upto_region 3 with fail
  go_cut [7, 8] (fun v7 v8 wx => ∃ g7 g8, v7 = .pointer (some ⟨g7, 0, none⟩) ∧ v8 = .pointer (some ⟨g8, 0, none⟩) ∧ Blk wx g7 50 #[.int .i64 a0, .int .u32 s0, .int .i64 b0] ∧ Blk wx g8 50 #[.int .i64 a1, .int .u32 s1, .int .i64 b1] ∧ Below w1.heap.size w1 wx)
  case first =>
    go_region_held3 (fun w' => w'.cell? ⟨w.heap.size, 0, none⟩ = some (.int .i64 a0) ∧ w'.cell? ⟨w.heap.size, 1, none⟩ = some (.int .u32 s0) ∧ w'.cell? ⟨w.heap.size, 2, none⟩ = some (.int .i64 b0) ∧ w'.cell? ⟨w.heap.size, 3, none⟩ = some (.int .i64 a1) ∧ w'.cell? ⟨w.heap.size, 4, none⟩ = some (.int .u32 s1) ∧ w'.cell? ⟨w.heap.size, 5, none⟩ = some (.int .i64 b1)) (go_keep) (fail)
    all_goals
      go_wp2_with fail
      go_meet
      first
        | exact E1.out
        | exact E2.out
  case rest =>
    obtain ⟨g7, g8, rfl, rfl, hX, hY, hb⟩ := hcut
    have L2 := Lib.hid (L1.out.trans (hb.mono L1.out.size))
    clear c0 c1 c2 c3 c4 c5 q1 q3 E1 E2 L1 hb
    by_cases hp : 0 ≤ a0 ∧ a0 ≤ 1 ∧ 0 ≤ b0 ∧ b0 ≤ 16
    · have hrb : rightB a0 b0 = true := by simpa [rightB] using hp
      rw [hrb] at pR0
      by_cases hq : 0 ≤ a1 ∧ a1 ≤ 1 ∧ 0 ≤ b1 ∧ b1 ≤ 16
      · have hrb1 : rightB a1 b1 = true := by simpa [rightB] using hq
        rw [hrb1] at pR1
        have HX := Lib.hid hX
        have HY := Lib.hid hY
        clear hrb hrb1 hY
        go_wp2_with (first | (refine wpList_load_blk (by rfl) 50 _ (by rfl) g7 (by rfl) _ #[.int .i64 a0, .int .u32 s0, .int .i64 b0] _ hX Try.underlying50 (by rfl) ip50 ?_) | fail)
        refine (pR0.out _).mono ?_
        rintro e w2 ⟨rfl, b2⟩
        have X2 := Blk.below HX.out b2 (Blk.lt HX.out)
        have Y2 := Blk.below HY.out b2 (Blk.lt HY.out)
        have L3 := Lib.hid (L2.out.trans (b2.mono L2.out.size))
        have y0 : w2.cell? ⟨g8, 0, none⟩ = some (.int .i64 a1) := Blk.cell Y2 0
        have y1 : w2.cell? ⟨g8, 1, none⟩ = some (.int .u32 s1) := Blk.cell Y2 1
        have y2 : w2.cell? ⟨g8, 2, none⟩ = some (.int .i64 b1) := Blk.cell Y2 2
        have HX := Lib.hid X2
        have HY := Lib.hid Y2
        clear b2 X2 Y2 L2 hX
        go_wp2_with fail
        refine (pR1.out _).mono ?_
        rintro e w3 ⟨rfl, b3⟩
        have X3 := Blk.below HX.out b3 (Blk.lt HX.out)
        have Y3 := Blk.below HY.out b3 (Blk.lt HY.out)
        have L4 := Lib.hid (L3.out.trans (b3.mono L3.out.size))
        clear b3 y0 y1 y2 L3 HX HY
        by_cases hf4 : 400 < fr
        · clear X3 Y3
          go_wp2_with fail
          go_ret
          exact ⟨rfl, L4.out⟩
        · obtain ⟨K, hK⟩ : ∃ K : Nat, (fr ≤ 0 ∧ K = 0) ∨ fr = K := by
            by_cases h : fr ≤ 0
            · exact ⟨0, .inl ⟨h, rfl⟩⟩
            · exact ⟨fr.toNat, .inr (by omega)⟩
          have hK4 : K ≤ 400 := by omega
          obtain ⟨wa, rfl⟩ : ∃ n : Nat, a0 = n := ⟨a0.toNat, by omega⟩
          obtain ⟨ba, rfl⟩ : ∃ n : Nat, b0 = n := ⟨b0.toNat, by omega⟩
          obtain ⟨wb, rfl⟩ : ∃ n : Nat, a1 = n := ⟨a1.toNat, by omega⟩
          obtain ⟨bb, rfl⟩ : ∃ n : Nat, b1 = n := ⟨b1.toNat, by omega⟩
          have hwa : wa < 2 := by omega
          have hba : ba ≤ 16 := by omega
          have hwb : wb < 2 := by omega
          have hbb : bb ≤ 16 := by omega
          have pN0 := Lib.hid (fun W => botnew_any (wa : Int) s0 (ba : Int) W hp)
          have pN1 := Lib.hid (fun W => botnew_any (wb : Int) s1 (bb : Int) W hq)
          have pM := Lib.hid (fun W ga gb (h1' : PB W ga wa s0 ba) (h2' : PB W gb wb s1 bb) (hne : ga ≠ gb) => match_any W ga gb wa ba wb bb seed s0 s1 fr K hK hK4 h1' h2' hne hwa hba hwb hbb h0 h1 hs0 hs1)
          have pRM := Lib.hid (fun W => rmatch_any W wa ba wb bb seed s0 s1 fr K hK hK4 hwa hba hwb hbb h0 h1 hs0 hs1)
          have pRN := Lib.hid (fun W => rnew_any W seed h0 h1)
          have HI := Inv.new seed h0 h1
          obtain ⟨C0, LC0⟩ := let_of (newF seed)
          unfold stV at pRN
          rw [← LC0.eq] at pRN
          have HLN := Lib.hid (matL_len (newF seed) wa ba wb bb s0 s1 K)
          have HBD := Lib.hid (matL_lt (newF seed) wa ba wb bb s0 s1 K)
          obtain ⟨f0, hf0⟩ : ∃ f0, f0 = newF seed := ⟨_, rfl⟩
          rw [← hf0] at pM pRM HI LC0 HLN HBD
          unfold MatchPost at pM pRM
          obtain ⟨ls, hls⟩ : ∃ ls, ls = (matL f0 wa ba wb bb s0 s1 K).1 := ⟨_, rfl⟩
          simp only [← hls] at pM pRM HLN HBD
          have HLC0 := Lib.hid LC0
          have HHI := Lib.hid HI
          have HKK := Lib.hid hK
          have hmx : (if fr < 0 then 0 else fr) = (K : Int) := by split <;> omega
          have HMX := Lib.hid hmx
          clear hp hq hwa hba hwb hbb hs0 hs1 h0 h1 HI LC0 hK hf0 hls hmx pR0 pR1 HX HY
          have x0 : w3.cell? ⟨g7, 0, none⟩ = some (.int .i64 wa) := Blk.cell X3 0
          have x1 : w3.cell? ⟨g7, 1, none⟩ = some (.int .u32 s0) := Blk.cell X3 1
          have x2 : w3.cell? ⟨g7, 2, none⟩ = some (.int .i64 ba) := Blk.cell X3 2
          have y0 : w3.cell? ⟨g8, 0, none⟩ = some (.int .i64 wb) := Blk.cell Y3 0
          have y1 : w3.cell? ⟨g8, 1, none⟩ = some (.int .u32 s1) := Blk.cell Y3 1
          have y2 : w3.cell? ⟨g8, 2, none⟩ = some (.int .i64 bb) := Blk.cell Y3 2
          have HX3 := Lib.hid X3
          have HY3 := Lib.hid Y3
          clear X3 Y3
          go_wp2_with fail
          refine (pN0.out _).mono ?_
          rintro e w4 ⟨rfl, hw4⟩
          have b4 : Below w3.heap.size w3 w4 := by rw [hw4]; exact (Below.refl _ _).alloc (Nat.le_refl _) _
          have P4 : PB w4 w3.heap.size wa s0 ba := by rw [hw4]; exact Blk.new _ _ _
          have X4 := Blk.below HX3.out b4 (Blk.lt HX3.out)
          have Y4 := Blk.below HY3.out b4 (Blk.lt HY3.out)
          have L5 := Lib.hid (L4.out.trans (b4.mono L4.out.size))
          have HG1 := Lib.hid (show w.heap.size ≤ w3.heap.size from L4.out.size)
          have HX4 := Lib.hid X4
          have HP4 := Lib.hid P4
          have gx1 := Blk.lt HX3.out
          have gy1 := Blk.lt HY3.out
          have HGL := Lib.hid (⟨gx1, gy1⟩ : g7 < w3.heap.size ∧ g8 < w3.heap.size)
          clear x0 x1 x2 y0 y1 y2 hw4 b4 P4 X4 L4 HX3 HY3 gx1 gy1 pN0
          generalize w3.heap.size = ga at *
          have y0 : w4.cell? ⟨g8, 0, none⟩ = some (.int .i64 wb) := Blk.cell Y4 0
          have y1 : w4.cell? ⟨g8, 1, none⟩ = some (.int .u32 s1) := Blk.cell Y4 1
          have y2 : w4.cell? ⟨g8, 2, none⟩ = some (.int .i64 bb) := Blk.cell Y4 2
          have HY4 := Lib.hid Y4
          clear Y4
          go_wp2_with fail
          refine (pN1.out _).mono ?_
          rintro e w5 ⟨rfl, hw5⟩
          have b5 : Below w4.heap.size w4 w5 := by rw [hw5]; exact (Below.refl _ _).alloc (Nat.le_refl _) _
          have Q5 : PB w5 w4.heap.size wb s1 bb := by rw [hw5]; exact Blk.new _ _ _
          have P5 := PB.below HP4.out b5
          have X5 := Blk.below HX4.out b5 (Blk.lt HX4.out)
          have Y5 := Blk.below HY4.out b5 (Blk.lt HY4.out)
          have L6 := Lib.hid (L5.out.trans (b5.mono L5.out.size))
          have gab : ga < w4.heap.size := Blk.lt HP4.out
          have HG2 := Lib.hid gab
          have HX5 := Lib.hid X5
          have HY5 := Lib.hid Y5
          have HP5 := Lib.hid P5
          have HQ5 := Lib.hid Q5
          clear y0 y1 y2 hw5 b5 P5 Q5 X5 Y5 L5 HP4 HX4 HY4 gab pN1
          generalize w4.heap.size = gb at *
          go_wp2_with fail
          refine (pM.out _ ga gb HP5.out HQ5.out (Nat.ne_of_lt HG2.out)).mono ?_
          rintro e w6 ⟨v1, C, LC, rfl, on1, fv1, t1⟩
          obtain ⟨z1, c1, rfl, hc1, hm1⟩ := on1.slice
          have HG := HGL.out
          have hg12 := HG2.out
          have X6 := Blk.touch HX5.out t1 (fun h => by omega)
          have Y6 := Blk.touch HY5.out t1 (fun h => by omega)
          have hg1 := HG1.out
          have L7 := Lib.hid (L6.out.trans (t1.below L6.out.size (fun k hk => by omega)))
          have HLC := Lib.hid LC
          have hsz := LC.size
          obtain ⟨W7, hrun, hX7, hT7⟩ := storeR_blk (ty := 33) (cells := C) (Blk.new w6 33 Try.zeroCells33) LC.info (by rw [LC.size]; exact hz66) LC.one
          have b7 : Below w6.heap.size w6 W7 := ((Below.refl _ w6).alloc (Nat.le_refl _) _).trans (hT7.below (by simp) (fun k hk => by omega))
          have X7 := Blk.below X6 b7 (Blk.lt X6)
          have Y7 := Blk.below Y6 b7 (Blk.lt Y6)
          have L8 := Lib.hid (L7.out.trans (b7.mono L7.out.size))
          have HON1 := Lib.hid (On.below on1 b7 (On.lt on1))
          have HX7 := Lib.hid hX7
          have HX7' := Lib.hid X7
          have HY7' := Lib.hid Y7
          clear X6 Y6 HX5 HY5 HP5 HQ5 L6 L7 t1 on1 fv1 hT7 X7 Y7 b7 HG hg12 hg1 pM LC hX7
          go_upto_region 11 with fail
          clear hrun
          have x0 : W7.cell? ⟨g7, 0, none⟩ = some (.int .i64 wa) := Blk.cell HX7'.out 0
          have x1 : W7.cell? ⟨g7, 1, none⟩ = some (.int .u32 s0) := Blk.cell HX7'.out 1
          have x2 : W7.cell? ⟨g7, 2, none⟩ = some (.int .i64 ba) := Blk.cell HX7'.out 2
          have y0 : W7.cell? ⟨g8, 0, none⟩ = some (.int .i64 wb) := Blk.cell HY7'.out 0
          have y1 : W7.cell? ⟨g8, 1, none⟩ = some (.int .u32 s1) := Blk.cell HY7'.out 1
          have y2 : W7.cell? ⟨g8, 2, none⟩ = some (.int .i64 bb) := Blk.cell HY7'.out 2
          generalize w6.heap.size = g14 at *
          go_wp2_with fail
          refine (pRM.out _).mono ?_
          rintro e w8 ⟨v2, C2, LC2, rfl, on2, fv2, t2⟩
          obtain rfl : C2 = C := LC2.eq.trans HLC.out.eq.symm
          obtain ⟨z2, c2, rfl, hc2, hm2⟩ := on2.slice
          have b8 : Below W7.heap.size W7 w8 := t2.below (Nat.le_refl _) (fun k hk => hk.elim)
          obtain ⟨W9, hrun, hX9, hT9⟩ := storeR_blk (ty := 33) (cells := C2) (Blk.new w8 33 Try.zeroCells33) LC2.info (by rw [LC2.size]; exact hz66) LC2.one
          have b9 : Below w8.heap.size w8 W9 := ((Below.refl _ w8).alloc (Nat.le_refl _) _).trans (hT9.below (by simp) (fun k hk => by omega))
          have b79 : Below W7.heap.size W7 W9 := b8.trans (b9.mono b8.size)
          have hS14 := Blk.below HX7.out b79 (Blk.lt HX7.out)
          have on1' : On W9 48 2 (.slice z1 K c1) K (inC ls) := On.below HON1.out b79 (On.lt HON1.out)
          have on2' : On W9 48 2 (.slice z2 K c2) K (inC ls) := On.below on2 b9 (On.lt on2)
          have L9 := Lib.hid (L8.out.trans (b79.mono L8.out.size))
          have HO1 := Lib.hid on1'
          have HO2 := Lib.hid on2'
          have HS14 := Lib.hid hS14
          have HX9 := Lib.hid hX9
          have cA := cellsAt_blk hS14
          have cB := cellsAt_blk hX9
          have cF : W9.cell? ⟨g14, 0, none⟩ = some (.int .i64 K) := by
            have h := HLC.out.sb hS14
            have h2 := h.int (j := 0) (by omega) (by omega) (by omega)
            rw [(HHI.out.play ls K).frame, Int.zero_add] at h2
            exact h2
          have hwf := (HHI.out.play ls K).wf (by omega) (by omega) (by omega)
          have hqS := Lib.hid (show ∀ W, (Op.equalIn 10000 33 (.agg C2) (.agg C2)).run Try.prog W = .ok true W from fun W => by rw [HLC.out.eq]; exact st_same W hwf hwf rfl)
          clear x0 x1 x2 y0 y1 y2 HX7 HX7' HY7' HON1 L8 LC2 on2 fv2 t2 b8 hT9 b9 b79 hS14 on1' on2' hX9 hwf pRM
          go_upto_region 12 with fail
          clear hrun
          generalize w8.heap.size = g16 at *
          have hg := guard33
          have hqo := hqS.out
          have hmx := HMX.out
          have k0 : (0 : Int) ≤ (K : Int) := by omega
          go_upto_region 15 with fail
          clear cA cB cF hg hqo hmx k0 hf4
          have hln := HLN.out
          clear HLN HMX HKK
          subst hln
          have hbd := HBD.out
          obtain ⟨y1, d1, e1, row1⟩ := on_in HO1.out hbd
          cases e1
          obtain ⟨y2, d2, e2, row2⟩ := on_in HO2.out hbd
          cases e2
          have HR1 := Lib.hid row1
          have HR2 := Lib.hid row2
          clear row1 row2 HO1 HO2
          have hl4 : (ls.length : Int) ≤ 400 := by omega
          go_wp2_with fail
          go_loopw [17] (fun iv wr => ∃ i : Nat, i ≤ ls.length ∧ iv = .int .i64 i ∧ Below W9.heap.size W9 wr) (fun iv _ => ls.length - (intOf iv).toNat)
          case atStart => exact ⟨0, by omega, rfl, Below.refl _ _⟩
          case round =>
            obtain ⟨i, hi, rfl, hbr⟩ := hrel
            have i1 : (0 : Int) ≤ (i : Int) := by omega
            by_cases hlt : i < ls.length
            · have i0 : (i : Int) < (ls.length : Int) := by omega
              obtain ⟨b, o, rfl, hlb, hrow⟩ := (HR1.out.below hbr).2 (by omega)
              obtain ⟨b2, o2, rfl, hlb2, hrow2⟩ := (HR2.out.below hbr).2 (by omega)
              obtain ⟨r0, r1⟩ := hrow i hlt
              obtain ⟨t0, t1⟩ := hrow2 i hlt
              have hnn := inA_lt hbd i
              have hqi := in_same
              have hqj : ∀ W, (Op.equalIn 10000 48 (.agg #[.int .u16 (inA ls i 0), .int .u16 (inA ls i 1)]) (.agg #[.int .u16 (inA ls i 0), .int .u16 (inA ls i 1)])).run Try.prog W = .ok true W := fun W => in_same W _ _ (hnn 0 (by omega)) (hnn 1 (by omega))
              have hg48 := guard48
              have HBR := Lib.hid hbr
              have HLT := Lib.hid hlt
              clear hrow hrow2 hnn hqi hbr hlt hlb hlb2
              generalize inA ls i 0 = n0 at *
              generalize inA ls i 1 = n1 at *
              go_upto_region 17 with fail
              go_region
              all_goals clear r0 r1 t0 t1 hqj hg48
              all_goals go_wp2_with fail
              all_goals
                have hlt := HLT.out
                go_roundw
                case rel => exact ⟨i + 1, by omega, by go_num, HBR.out.drew⟩
                case measure => simp [intOf]; omega
            · obtain rfl : i = ls.length := by omega
              have X := Blk.below HS14.out hbr (Blk.lt HS14.out)
              have HBR := Lib.hid (L9.out.trans (hbr.mono L9.out.size))
              have HR3 := Lib.hid (HR1.out.below hbr)
              have c0 : cellsAt wr.drew g14 = C2 := cellsAt_blk X
              have HXX := Lib.hid X
              have pRP := Lib.hid (fun W (h : InRow W z1 ls) => rplay_any W C0 f0 0 0 z1 c1 ls HLC0.out h HHI.out (by omega) (by omega) (by omega) (by omega))
              have HLD := Lib.hid (show ∀ C', Let C' (playF f0 ls ls.length) → C' = C2 from fun C' h => h.eq.trans HLC.out.eq.symm)
              have hg := guard33
              have hqo := hqS.out
              clear hbr X hlt hi HR1 HR2 hbd
              go_upto_region 19 with fail
              go_region_held3 (fun w' => cellsAt w' g14 = C2) (first | exact c0 | exact cellsAt_blk P1)
                (first
                  | (go_at_call 17; refine (pRN.out _).mono ?_; rintro e wA ⟨rfl, bA⟩; have P1 : Blk wA g14 33 C2 := (Blk.drew HXX.out).below bA (Blk.lt HXX.out); have PBA : Below wr.heap.size wr wA := (⟨bA.os, bA.tape, bA.output, bA.size, bA.block⟩ : Below wr.heap.size wr wA))
                  | (go_at_call 19; refine (pRP.out _ (HR3.out.below PBA)).mono ?_; rintro e wB ⟨C', LC9, rfl, bB⟩; have hce := HLD.out C' LC9; subst hce; have P1 : Blk wB g14 33 C' := P1.below bB P1.lt; have PBB := PBA.trans (bB.mono PBA.size))
                  | fail "no arm")
              all_goals
                go_wp2_with fail
                go_ret
                exact ⟨by first | rfl | (refine ret_bool ?_; simp), HBR.out.trans (PBB.mono HBR.out.size)⟩
      · have hrb1 : rightB a1 b1 = false := by simp only [rightB, decide_eq_false_iff_not]; exact hq
        rw [hrb1] at pR1
        have HY := Lib.hid hY
        clear hrb hrb1 hY
        go_wp2_with (first | (refine wpList_load_blk (by rfl) 50 _ (by rfl) g7 (by rfl) _ #[.int .i64 a0, .int .u32 s0, .int .i64 b0] _ hX Try.underlying50 (by rfl) ip50 ?_) | fail)
        refine (pR0.out _).mono ?_
        rintro e w2 ⟨rfl, b2⟩
        have hY := Blk.below HY.out b2 (Blk.lt HY.out)
        have y0 : w2.cell? ⟨g8, 0, none⟩ = some (.int .i64 a1) := Blk.cell hY 0
        have y1 : w2.cell? ⟨g8, 1, none⟩ = some (.int .u32 s1) := Blk.cell hY 1
        have y2 : w2.cell? ⟨g8, 2, none⟩ = some (.int .i64 b1) := Blk.cell hY 2
        have L3 := Lib.hid (L2.out.trans (b2.mono L2.out.size))
        clear b2
        go_wp2_with fail
        refine (pR1.out _).mono ?_
        rintro e w3 ⟨rfl, b3⟩
        have L4 := Lib.hid (L3.out.trans (b3.mono L3.out.size))
        clear b3
        go_wp2_with fail
        go_ret
        exact ⟨rfl, L4.out⟩
    · have hrb : rightB a0 b0 = false := by simp only [rightB, decide_eq_false_iff_not]; exact hp
      rw [hrb] at pR0
      clear hrb hY
      go_wp2_with (first | (refine wpList_load_blk (by rfl) 50 _ (by rfl) g7 (by rfl) _ #[.int .i64 a0, .int .u32 s0, .int .i64 b0] _ hX Try.underlying50 (by rfl) ip50 ?_) | fail)
      refine (pR0.out _).mono ?_
      rintro e w2 ⟨rfl, b2⟩
      have L3 := Lib.hid (L2.out.trans (b2.mono L2.out.size))
      clear b2
      go_wp2_with fail
      go_ret
      exact ⟨rfl, L3.out⟩
end Go.Proofs.Ytblnfkhaicjeaaa.Bot
