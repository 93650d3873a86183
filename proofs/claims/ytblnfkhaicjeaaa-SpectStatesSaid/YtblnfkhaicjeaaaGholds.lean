/-
  backstaylaw23.GameHolds.
-/
import Derived.Test.YtblnfkhaicjeaaaGawake
namespace Go.Proofs.Ytblnfkhaicjeaaa.Gm
open Go.RowKit Go.Sort Go.Proofs.Ytblnfkhaicjeaaa.Num Go.Proofs.Ytblnfkhaicjeaaa.Eql
set_option linter.all false

theorem wpStill_load_blk {P : Program} {ops : Array Oper} {w : World} {Q : Act → Prop} {a : Act} {o : Oper} {rest : List Oper} (hgd : o.guard = none) (ty : TypeId) (x : Operand) (ho : o.op = .load ty x)
    (g : Nat) (hx : a.eval x = .pointer (some ⟨g, 0, none⟩)) (t : TypeId) (cs : Array Value) (d : TypeDesc) (hg : Blk w g t cs)
    (hu : P.underlying ty = some d) (hd : (match d with | .struct _ | .array _ _ => true | _ => false) = true) (hi : (P.info? ty).map (·.size) = some cs.size)
    (h : wpStill P ops w Q rest (a.put o.dst (.agg cs))) : wpStill P ops w Q (o :: rest) a := by
  refine wpStill_step fun K hK => ?_
  have hw : Region.wanted o (yielded ops a.tmps) = true := by simp [Region.wanted, hgd]
  rw [if_pos hw]
  unfold Oper.still execOp
  simp only [ho, hx, Instr.loadAt, Instr.sureAddr, Sem.run_bind, Sem.run_pure, Result.andThen_ok, run_loadVar_row w g t ty cs (0, 0) d hg hu hd hi]
  exact ⟨rfl, hK _ h⟩
set_option maxRecDepth 100000 in
set_option maxHeartbeats 8000000 in
theorem holds_law (w : World) (seed : Int) (h0 : 0 ≤ seed) (h1 : seed < 4294967296) (a : Option Addr) (c : Nat) (ls : List (Nat × Nat)) (hr : InRow w a ls) (hl : ls.length ≤ 9223372036854775807) :
    Calls Try.prog 6 #[.int .u32 seed, .slice a ls.length c] w fun e w' => e = .returned (.bool true) ∧ Below w.heap.size w w' := by
  have pA := Lib.hid (awake_any w)
  have pN := Lib.hid (fun W => new_any W seed h0 h1)
  have HI := Lib.hid (Inv.new seed h0 h1)
  obtain ⟨C, LC⟩ := let_of (newF seed)
  unfold stV at pN
  rw [← LC.eq] at pN
  have hcs := LC.size
  have HAS := Lib.hid (fun W => alloc_store W LC)
  have HR := Lib.hid hr
  clear LC hr
  generalize hF0 : newF seed = f0 at *
  clear hF0
  go_enter Try.func6, Try.ntmps6
  go_wp2_with fail
  refine pA.out.mono ?_
  rintro e w1 ⟨rfl, hb1⟩
  go_wp2_with fail
  refine (pN.out _).mono ?_
  rintro e w2 ⟨rfl, hb2⟩
  obtain ⟨W3, hrun, hS3, hB3, hz3⟩ := HAS.out w2
  have hz66' := hz66
  go_upto_region 4 with fail
  clear hrun hz66'
  have hz1 := hb1.size
  have hz2 := hb2.size
  have hBB := (hb1.trans (hb2.mono hz1)).trans (hB3.mono (by omega))
  obtain ⟨b0, hb0⟩ : ∃ b0, w2.heap.size = b0 := ⟨_, rfl⟩
  rw [hb0] at hS3 hz2
  have hlow : w.heap.size ≤ b0 := by omega
  rw [hb0]
  clear hb1 hb2 hB3 hz3 hb0 pA pN HAS hz1 hz2 hcs h0 h1
  go_wp2_with fail
  go_loopw [6] (fun iv wr => ∃ k : Nat, k ≤ ls.length ∧ k ≤ 300 ∧ iv = .int .i64 k ∧ SB wr b0 33 (playF f0 ls k) ∧ Below w.heap.size w wr) (fun iv _ => 300 - (intOf iv).toNat)
  case atStart => exact ⟨0, by omega, by omega, rfl, hS3, hBB⟩
  case round =>
    clear hS3 hBB
    obtain ⟨k, hk, hk3, rfl, hS, hB⟩ := hrel
    by_cases hlt : k < ls.length ∧ k < 300
    · have hlt1 := hlt.1
      obtain ⟨gb, ob, rfl, hgb, hcb⟩ := (HR.out.below hB).2 (by omega)
      obtain ⟨c0, c1⟩ := hcb k hlt.1
      have i0 : (k : Int) < (ls.length : Int) := by omega
      have i1 : (0 : Int) ≤ (k : Int) := by omega
      have i2 : decide ((k : Int) < 300) = true := by simp; omega
      have hInv := HI.out.play ls k
      have hInv2 := HI.out.play ls (k + 1)
      have hUp := up_step (playF f0 ls k) (inA ls k)
      have pS := Lib.hid (fun W => step_any W (playF f0 ls k) _ _ (inA ls k) (inA_lt HR.out.1 k) hInv (by omega) (by omega) (by omega))
      unfold inV stV at pS
      have HE := Lib.hid (show playF f0 ls (k + 1) = stepF (playF f0 ls k) (inA ls k) from rfl)
      have hUp' : (playF f0 ls k) 64 ≤ (playF f0 ls (k + 1)) 64 ∧ (playF f0 ls k) 65 ≤ (playF f0 ls (k + 1)) 65 := hUp
      rw [← HE.out] at pS
      have HL := Lib.hid hlt
      have s0 := hS.score (i := 0) (by omega)
      have s1 := hS.score (i := 1) (by omega)
      clear hUp hcb hlt hlt1 hInv
      obtain ⟨F1, hF1⟩ : ∃ F1, playF f0 ls (k + 1) = F1 := ⟨_, rfl⟩
      rw [hF1] at pS HE hInv2 hUp'
      have HF1 := Lib.hid hF1
      clear hF1
      generalize playF f0 ls k = F0 at *
      rw [Nat.add_zero] at s0
      rw [show 64 + 1 = 65 from rfl] at s1
      have HI2 := Lib.hid hInv2
      have HUp := Lib.hid hUp'
      clear hInv2 hUp'
      have hbw := (Blk.new wr 31 #[.int .i64 (F0 64), .int .i64 (F0 65)])
      have hS1 := hS.alloc (.cells #[.int .i64 (F0 64), .int .i64 (F0 65)] 31)
      have hB1 : Below w.heap.size w (wr.alloc (.cells #[.int .i64 (F0 64), .int .i64 (F0 65)] 31)) := hB.alloc hB.size _
      have k0 : (wr.alloc (.cells #[.int .i64 (F0 64), .int .i64 (F0 65)] 31)).cell? ⟨gb, ob + k * 2, none⟩ = some (.int .u16 (inA ls k 0)) := by rw [← c0]; exact (Below.refl _ wr).alloc (Nat.le_refl _) _ |>.cell (p := ⟨gb, ob + k * 2, none⟩) hgb
      have k1 : (wr.alloc (.cells #[.int .i64 (F0 64), .int .i64 (F0 65)] 31)).cell? ⟨gb, ob + k * 2 + 1, none⟩ = some (.int .u16 (inA ls k 1)) := by rw [← c1]; exact (Below.refl _ wr).alloc (Nat.le_refl _) _ |>.cell (p := ⟨gb, ob + k * 2 + 1, none⟩) hgb
      have hne : b0 ≠ wr.heap.size := by have := hS.lt; omega
      have hlb := hS.lt
      go_upto_region 8 with fail
      clear hS hB s0 s1 c0 c1
      generalize wr.heap.size = bw at *
      generalize wr.alloc (.cells #[.int .i64 (F0 64), .int .i64 (F0 65)] 31) = W4 at *
      obtain ⟨D, LD⟩ := let_of F0
      obtain ⟨E, LE⟩ := let_of F1
      rw [← LD.eq, ← LE.eq] at pS
      have hX := LD.blk hS1
      have hifD := LD.info
      refine wp_region_still_tail 5 (by kernel_rfl) (by kernel_rfl) ?_
      simp only [List.take_succ_cons, List.take_zero, List.drop_succ_cons, List.drop_zero]
      refine wpStill_load_blk (by rfl) 33 _ (by rfl) b0 (by rfl) _ D _ hX.drew Try.underlying33 (by rfl) hifD ?_
      iterate 4 still_step
      refine wpStill_nil ?_
      change wpList _ _ _ _ _ (World.drew _)
      go_wp2_with fail
      refine (pS.out _).mono ?_
      rintro e W5 ⟨rfl, hb5⟩
      have hb5' : Below W4.heap.size W4 W5 := ⟨hb5.os, hb5.tape, hb5.output, hb5.size, hb5.block⟩
      have hz5 := hb5'.size
      have hX5 := hX.below hb5' hX.lt
      have hw5 := hbw.below hb5' hbw.lt
      have hB5 := hB1.trans (hb5'.mono hB1.size)
      have hDE : D.size = E.size := by rw [LD.size, LE.size]
      have hifE := LE.info
      have honeE := LE.one
      have LE' := Lib.hid LE
      clear hb5 hb5' hX hS1 hbw hB1 k0 k1 LD hifD pS LE
      go_upto_region 9 with (refine wpList_store_blk (by rfl) 33 _ _ (by rfl) b0 E (by rfl) (by rfl) _ D hX5 hifE hDE honeE ?_; intro W6 hX6 hT6)
      have hS6 := LE'.out.sb hX6
      have hw6 := hw5.touch hT6 (by omega)
      have hB6 := hB5.trans (hT6.below hB5.size (fun k hk => by omega))
      clear hX5 hw5 hB5 hifE hDE honeE LE' hX6 hT6
      have g0 := hS6.int (j := 0) (by omega) (by omega) (by omega)
      rw [HI2.out.frame] at g0
      rw [show (0 : Int) + ((k + 1 : Nat) : Int) = (k : Int) + 1 by omega] at g0
      have g64 := hS6.score (i := 0) (by omega)
      have g65 := hS6.score (i := 1) (by omega)
      rw [Nat.add_zero] at g64
      rw [show 64 + 1 = 65 from rfl] at g65
      have q64 := hw6.cell 0
      have q65 := hw6.cell 1
      have d64 : decide (F1 64 < F0 64) = false := by have := HUp.out; simp; omega
      have d65 : decide (F1 65 < F0 65) = false := by have := HUp.out; simp; omega
      have HI3 := Lib.hid (HI2.out.wf (by omega) (by omega) (by omega))
      go_upto_region 11 with fail
      clear g0 g64 g65 q64 q65 d64 d65 hw6
      go_wp2_with fail
      go_loopw [8] (fun jv wr => ∃ j : Nat, j ≤ 2 ∧ jv = .int .i64 j ∧ SB wr b0 33 F1 ∧ Below w.heap.size w wr) (fun jv _ => 2 - (intOf jv).toNat)
      case atStart => exact ⟨0, by omega, rfl, hS6, hB6⟩
      case round =>
        clear hS6 hB6
        obtain ⟨j, hj, rfl, hS, hB⟩ := hrel
        by_cases hlj : j < 2
        · have j1 : (0 : Int) ≤ (j : Int) := by omega
          have j2 : (j : Int) < 2 := by omega
          obtain ⟨e0, e1, e2, e3, e4, e5, e6, -⟩ := hS.bodyAt hlj
          have hb := HI2.out.b j hlj
          have x0 := hb.x0; have x1 := hb.x1; have y0 := hb.y0; have v0 := hb.vx0; have v1 := hb.vx1
          have l0 := hb.l0; have l1 := hb.l1; have c0 := hb.c0; have c1 := hb.c1; have fc := hb.fc
          have hS2 := hS.alloc (.cells (bodL (bod F1 (2 + j * 7))).toArray 26)
          generalize bod F1 (2 + j * 7) = b at *
          have b1 : decide (b.x < 0) = false := by simp; omega
          have b2 : decide (13107200 < b.x) = false := by simp; omega
          have b3 : decide (b.y < 0) = false := by simp; omega
          have b4 : decide (b.vx < -196608) = false := by simp; omega
          have b5 : decide (196608 < b.vx) = false := by simp; omega
          have b6 : decide (b.life < 1) = false := by simp; omega
          have b7 : decide (100 < b.life) = false := by simp; omega
          have b8 : decide (b.cool < 0) = false := by simp; omega
          have b9 : decide (15 < b.cool) = false := by simp; omega
          unfold bodL at hS2
          have HS := Lib.hid hS2
          have HB := Lib.hid (hB.alloc hB.size (.cells (bodL b).toArray 26))
          unfold bodL at HB
          clear hb x0 x1 y0 v0 v1 l0 l1 c0 c1 hS hB hS2
          rcases fc with fc | fc
          all_goals
            rw [fc] at e6 HS HB
            go_wp2_with fail
            go_roundw
            case rel => exact ⟨j + 1, by omega, by go_num, HS.out, HB.out⟩
            case measure => simp [intOf]; omega
        · obtain rfl : j = 2 := by omega
          rw [show ((2 : Nat) : Int) = 2 from rfl]
          clear hlj hj
          go_wp2_with fail
          go_loopw [10] (fun jv wr => ∃ j : Nat, j ≤ 8 ∧ jv = .int .i64 j ∧ SB wr b0 33 F1 ∧ Below w.heap.size w wr) (fun jv _ => 8 - (intOf jv).toNat)
          case atStart => exact ⟨0, by omega, rfl, hS, hB⟩
          case round =>
            clear hS hB
            obtain ⟨j, hj, rfl, hS, hB⟩ := hrel
            by_cases hlj : j < 8
            · have j1 : (0 : Int) ≤ (j : Int) := by omega
              have j2 : (j : Int) < 8 := by omega
              obtain ⟨e0, e1, e2, e3, e4, e5, -⟩ := hS.shotAt hlj
              have hs := HI2.out.s j hlj
              have hS2 := hS.alloc (.cells (shoL (sho F1 (16 + j * 6))).toArray 29)
              have hB2 := hB.alloc hB.size (.cells (shoL (sho F1 (16 + j * 6))).toArray 29)
              generalize sho F1 (16 + j * 6) = s at *
              unfold shoL at hS2 hB2
              rcases hs with rfl | hs
              · simp only [zeroS, onB_no] at e0 e1 e2 e3 e4 e5 hS2 hB2
                have HS := Lib.hid hS2
                have HB := Lib.hid hB2
                clear hS hB hS2 hB2
                go_wp2_with fail
                go_roundw
                case rel => exact ⟨j + 1, by omega, by go_num, HS.out, HB.out⟩
                case measure => simp [intOf]; omega
              · have x0 := hs.x0; have x1 := hs.x1; have r0 := hs.f0; have r1 := hs.f1
                rw [onB_yes (by rw [hs.on]; decide)] at e0 hS2 hB2
                have b1 : decide (s.x < 0) = false := by simp; omega
                have b2 : decide (13107200 < s.x) = false := by simp; omega
                have b3 : decide (s.frames < 1) = false := by simp; omega
                have b4 : decide (60 < s.frames) = false := by simp; omega
                have HS := Lib.hid hS2
                have HB := Lib.hid hB2
                clear hS hB hS2 hB2 hs x0 x1 r0 r1
                go_wp2_with fail
                go_roundw
                case rel => exact ⟨j + 1, by omega, by go_num, HS.out, HB.out⟩
                case measure => simp [intOf]; omega
            · obtain rfl : j = 8 := by omega
              go_wp2_with fail
              have hL := HL.out
              go_roundw
              case rel => exact ⟨k + 1, by omega, by omega, by go_num, by rw [HF1.out]; exact hS, hB⟩
              case measure => simp [intOf]; omega
    · by_cases hlt1 : k < ls.length
      · have i0 : (k : Int) < (ls.length : Int) := by omega
        have i2 : decide ((k : Int) < 300) = false := by simp; omega
        clear hS
        go_wp2_with fail
        go_ret
        exact ⟨rfl, hB⟩
      · have i0 : decide ((k : Int) < (ls.length : Int)) = false := by simp; omega
        clear hS
        go_wp2_with fail
        go_ret
        exact ⟨rfl, hB⟩
end Go.Proofs.Ytblnfkhaicjeaaa.Gm
