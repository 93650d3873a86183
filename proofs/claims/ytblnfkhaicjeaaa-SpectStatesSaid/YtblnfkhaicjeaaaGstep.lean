/-
  The walk of game.Step.
-/
import Derived.Test.YtblnfkhaicjeaaaGfly
namespace Go.Proofs.Ytblnfkhaicjeaaa.Gm
open Go.RowKit Go.Sort Go.Proofs.Ytblnfkhaicjeaaa.Num
set_option linter.all false

def zF : F := fun _ => 0
theorem stA_zero : stA zF = Try.zeroCells33 := by kernel_rfl
theorem infoSt : (Try.prog.info? 33).map (·.size) = some 66 := by kernel_rfl
theorem infoStf (f : F) : (Try.prog.info? 33).map (·.size) = some (stA f).size := by rw [stA_size]; exact infoSt
def bodiesF (f : F) (n : Nat → Nat) : Nat → F
  | 0 => headF f
  | i + 1 => bodyF (bodiesF f n i) i (n i)
theorem Inv.bodies {fr sc : Int} {f : F} (h : Inv fr sc f) (n : Nat → Nat) : ∀ i : Nat, i ≤ 2 → Inv (fr + 1) sc (bodiesF f n i)
  | 0, _ => h.head
  | i + 1, hi => (Inv.bodies h n i (by omega)).body (by omega) _
theorem step_eq (f : F) (n : Nat → Nat) : stepF f n = fliesF (bodiesF f n 2) n 8 := rfl

set_option maxRecDepth 100000 in
set_option maxHeartbeats 8000000 in
theorem step_any (w : World) (f : F) (fr sc : Int) (n : Nat → Nat) (hn : ∀ i, i < 2 → n i < 65536) (hI : Inv fr sc f) (hsc : sc ≤ 4611686018427387000) (hfr : fr ≤ 4611686018427387904) (hfr0 : 0 ≤ fr) :
    Calls Try.prog 26 #[stV f, inV n] w fun e w' => e = .returned (stV (stepF f n)) ∧ Below w.heap.size w w' := by
  obtain ⟨W1, hW1⟩ : ∃ W1, W1 = ((w.alloc (.cells (stA f) 33)).alloc (.cells #[.int .u16 (n 0), .int .u16 (n 1)] 48)).alloc (.cells (stA zF) 33) := ⟨_, rfl⟩
  have hS : SB W1 w.heap.size 33 f := by rw [hW1]; exact ((SB.new w _ f).alloc _).alloc _
  have hbx : Blk W1 (w.heap.size + 1) 48 #[.int .u16 (n 0), .int .u16 (n 1)] := by
    rw [hW1]
    have := (Blk.new (w.alloc (.cells (stA f) 33)) 48 #[.int .u16 (n 0), .int .u16 (n 1)]).alloc (.cells (stA zF) 33)
    simpa using this
  have hR : SB W1 (w.heap.size + 1 + 1) 33 zF := by
    rw [hW1]
    have := SB.new ((w.alloc (.cells (stA f) 33)).alloc (.cells #[.int .u16 (n 0), .int .u16 (n 1)] 48)) 33 zF
    simpa using this
  have hB : Below w.heap.size w W1 := by rw [hW1]; exact (((Below.refl _ w).alloc (Nat.le_refl _) _).alloc (by simp) _).alloc (by simp; omega) _
  have hz : w.heap.size + 3 ≤ W1.heap.size := by rw [hW1]; simp
  have CBX := Lib.hid (show ∀ W, Blk W (w.heap.size + 1) 48 #[.int .u16 (n 0), .int .u16 (n 1)] → ∀ i, i < 2 → W.cell? ⟨w.heap.size + 1, i, none⟩ = some (.int .u16 (n i)) from fun W hW i hi => by
    rw [hW.cell i]
    have e : i = 0 ∨ i = 1 := by omega
    rcases e with rfl | rfl <;> rfl)
  have HN := Lib.hid hn
  have HI := Lib.hid hI
  have hf0 := hI.frame
  have sd0 := hI.seed0
  have sd1 := hI.seed1
  have c0 := hS.int (j := 0) (by omega) (by omega) (by omega)
  have c1 := hS.seed
  have f0 := hS.fr 0
  have f1 := hS.fr 1
  rw [hf0] at c0
  have hf0' := Lib.hid hf0
  have pR := Lib.hid (fun W => roll_any W (f 1) sd0 sd1)
  have hw1 : IntKind.i64.wrap (fr + 1) = fr + 1 := IntWalk.i64_in _ (by omega)
  rw [stA_zero] at hW1
  unfold inV stV
  have S2 := (hS.setInt (j := 0) (by omega) (by omega) (by omega) (fr + 1)).set_ (j := 1) (by omega) (rollV (f 1))
  rw [cv_seed] at S2
  have e2 : put (put f 0 (fr + 1)) 1 (rollV (f 1)) = bodiesF f n 0 := by rw [← hf0]; rfl
  rw [e2] at S2
  have T2 : TG w.heap.size W1 ((W1.setCell ⟨w.heap.size, 0, none⟩ (.int .i64 (fr + 1))).setCell ⟨w.heap.size, 1, none⟩ (.int .u32 (rollV (f 1)))) := TG.set (TG.set (Touch.refl _ _) _ _) _ _
  clear hn hI hf0 e2 hS
  go_enter Try.func26, Try.ntmps26
  go_upto_region 1 with fail
  rw [← hW1]
  clear hW1
  go_wp2_with fail
  refine (pR.out _).mono ?_
  rintro e w' ⟨rfl, rfl⟩
  go_upto_region 3 with fail
  clear c0 c1 f0 f1 hw1 pR
  generalize (W1.setCell ⟨w.heap.size, 0, none⟩ (.int .i64 (fr + 1))).setCell ⟨w.heap.size, 1, none⟩ (.int .u32 (rollV (f 1))) = W2 at *
  go_wp2_with fail
  go_loopw [16] (fun iv wr => ∃ i : Nat, i ≤ 2 ∧ iv = .int .i64 i ∧ SB wr w.heap.size 33 (bodiesF f n i) ∧ TG w.heap.size W1 wr) (fun iv _ => 2 - (intOf iv).toNat)
  case atStart => exact ⟨0, by omega, rfl, S2, T2⟩
  case round =>
    clear S2 T2
    obtain ⟨i, hi, rfl, hS, hT⟩ := hrel
    by_cases hlt : i < 2
    · have i1 : (0 : Int) ≤ (i : Int) := by omega
      have i2 : (i : Int) < 2 := by omega
      have hInv := HI.out.bodies n i hi
      have hb := hInv.b i hlt
      have hni := HN.out i hlt
      have cI := CBX.out wr (hbx.touch hT (by omega)) i hlt
      have p1 := Lib.hid (walk_any wr w.heap.size _ _ i (n i) _ hlt hni (BS.of hS i) hb.vx0 hb.vx1)
      have hT' := Lib.hid hT
      have HL := Lib.hid hlt
      have HNI := Lib.hid hni
      have HB := Lib.hid hb
      have HES := Lib.hid (show bodiesF f n (i + 1) = fireF (setB (bodiesF f n i) (2 + i * 7) (slideB (fallB (walkB (bod (bodiesF f n i) (2 + i * 7)) (n i)) (n i)))) i (n i) from rfl)
      clear hInv hb hS hT hni hlt
      generalize bodiesF f n i = F0 at *
      generalize bod F0 (2 + i * 7) = b at *
      go_wp2_with fail
      refine p1.out.mono ?_
      rintro e w3 ⟨rfl, h3, t3⟩
      have T3 := hT'.out.trans t3 (fun k hk => .inl hk)
      have p2 := Lib.hid (fall_any w3 w.heap.size _ _ i (n i) _ HL.out HNI.out h3 (walkB_ok HB.out _))
      have cI := CBX.out w3 (hbx.touch T3 (by omega)) i HL.out
      clear h3 t3 p1 hT'
      go_wp2_with fail
      refine p2.out.mono ?_
      rintro e w4 ⟨rfl, h4, t4⟩
      have T4 := T3.trans t4 (fun k hk => .inl hk)
      have p3 := Lib.hid (slide_any w4 w.heap.size _ _ i _ HL.out h4 (fallB_ok (walkB_ok HB.out _) _))
      clear h4 t4 p2 T3
      go_wp2_with fail
      refine p3.out.mono ?_
      rintro e w5 ⟨rfl, h5, t5⟩
      have T5 := T4.trans t5 (fun k hk => .inl hk)
      have p4 := Lib.hid (fire_any w5 w.heap.size _ _ i (n i) HL.out HNI.out h5 (by rw [setB_bod]; exact slideB_ok (fallB_ok (walkB_ok HB.out _) _)))
      have cI := CBX.out w5 (hbx.touch T5 (by omega)) i HL.out
      clear h5 t5 p3 T4
      go_wp2_with fail
      refine p4.out.mono ?_
      rintro e w6 ⟨rfl, h6, t6⟩
      have T6 := T5.trans t6 (fun k hk => .inl hk)
      clear t6 p4 T5
      have hlt := HL.out
      go_wp2_with fail
      go_roundw
      case rel => exact ⟨i + 1, by omega, by go_num, by rw [HES.out]; exact h6, T6⟩
      case measure => simp [intOf]; omega
    · obtain rfl : i = 2 := by omega
      rw [show ((2 : Nat) : Int) = 2 from rfl]
      have HST := Lib.hid (step_eq f n)
      have HI2 := Lib.hid (HI.out.bodies n 2 (by omega))
      generalize bodiesF f n 2 = F0 at *
      clear hlt hi HI
      go_wp2_with fail
      go_loopw [40] (fun kv wr => ∃ k : Nat, k ≤ 8 ∧ kv = .int .i64 k ∧ SB wr w.heap.size 33 (fliesF F0 n k) ∧ TG w.heap.size W1 wr) (fun kv _ => 8 - (intOf kv).toNat)
      case atStart => exact ⟨0, by omega, rfl, hS, hT⟩
      case round =>
        clear hS hT
        obtain ⟨k, hk, rfl, hS, hT⟩ := hrel
        by_cases hlt : k < 8
        · have k1 : (0 : Int) ≤ (k : Int) := by omega
          have k2 : (k : Int) < 8 := by omega
          have con := hS.on hlt
          have hInv := HI2.out.flies n k hk
          have hT' := Lib.hid hT
          have HES := Lib.hid (show fliesF F0 n (k + 1) = if fliesF F0 n k (16 + k * 6) = 0 then fliesF F0 n k else flyF (fliesF F0 n k) k n from rfl)
          by_cases hon : fliesF F0 n k (16 + k * 6) = 0
          · rw [onB_no hon] at con
            have HES2 := HES.out
            rw [if_pos hon] at HES2
            have HES3 := Lib.hid HES2
            have HS := Lib.hid hS
            clear HES HES2 hon hS hT hInv
            go_wp2_with fail
            go_roundw
            case rel => exact ⟨k + 1, by omega, by go_num, by rw [HES3.out]; exact HS.out, hT'.out⟩
            case measure => simp [intOf]; omega
          · rw [onB_yes hon] at con
            have HES2 := HES.out
            rw [if_neg hon] at HES2
            have HES3 := Lib.hid HES2
            have hbx2 := hbx.touch hT (by omega)
            have d0 := hbx2.cell 0
            have d1 := hbx2.cell 1
            have p1 := Lib.hid (fly_any wr w.heap.size _ _ _ _ k n hlt HN.out hS hInv (by omega) hon)
            unfold inV at p1
            clear HES HES2 hon hS hT hInv hbx2
            generalize fliesF F0 n k = F1 at *
            go_wp2_with fail
            refine p1.out.mono ?_
            rintro e w3 ⟨rfl, h3, t3⟩
            have T3 := hT'.out.trans t3 (fun k hk => .inl hk)
            clear t3 p1 hT'
            go_wp2_with fail
            go_roundw
            case rel => exact ⟨k + 1, by omega, by go_num, by rw [HES3.out]; exact h3, T3⟩
            case measure => simp [intOf]; omega
        · obtain rfl : k = 8 := by omega
          rw [← HST.out] at hS
          have hR2 : SB wr (w.heap.size + 1 + 1) 33 zF := hR.touch hT (by omega)
          have hBB := hB.trans ((hT.below (by omega) (fun k hk => by omega) : Below w.heap.size W1 wr))
          clear hT hR hbx hlt hk CBX HN HI2 HST
          obtain ⟨C, hC⟩ : ∃ C, C = stA (stepF f n) := ⟨_, rfl⟩
          have hsz : C.size = 66 := by rw [hC]; exact stA_size _
          have hone : C.all (·.oneCell') = true := by rw [hC]; exact stA_one _
          have hif : (Try.prog.info? 33).map (·.size) = some C.size := by rw [hsz]; exact infoSt
          have hS2 : Blk wr w.heap.size 33 C := by rw [hC]; exact hS
          obtain ⟨Z, hZ⟩ : ∃ Z, Z = stA zF := ⟨_, rfl⟩
          have hzs : Z.size = C.size := by rw [hZ, hsz]; exact stA_size _
          have hR3 : Blk wr (w.heap.size + 1 + 1) 33 Z := by rw [hZ]; exact hR2
          have HC := Lib.hid hC
          clear hC hZ hR2 hS hsz
          go_wp2_with (first | (refine wpList_load_blk (by rfl) 33 _ (by rfl) w.heap.size (by rfl) _ C _ hS2 Try.underlying33 (by rfl) hif ?_) | (refine wpList_store_blk (by rfl) 33 _ _ (by rfl) (w.heap.size + 1 + 1) C (by rfl) (by rfl) _ Z hR3 hif hzs hone ?_; intro W6 hd6 ht6))
          refine bodyPost_ret (v := .agg C) (results_blk Try.results26 _ _ (w.heap.size + 1 + 1) _ _ _ (by rfl) hd6 Try.underlying33 (by rfl) hif) rfl ⟨by rw [HC.out], ?_⟩
          exact hBB.trans (ht6.below hBB.size (fun k hk => by omega))
end Go.Proofs.Ytblnfkhaicjeaaa.Gm
