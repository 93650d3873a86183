/-
  Texts joined: Rfire. No condition.
-/
import Derived.Test.YtckkpgopddnkiaaBSpectWatches14
namespace Go.Proofs.Ytckkpgopddnkiaa.Gm
open Go.RowKit Go.Sort Go.Proofs.Ytckkpgopddnkiaa.Num
set_option linter.all false
attribute [local go_sem ↓] exec_st29

/-- 'b := ..' of a body: a block laid and stored whole. -/
theorem alloc_body (w : World) (L : List Value) (b : Body) (hL : L = bodL b) : ∃ W3, (storeCells ⟨w.heap.size, 0, none⟩ L).run Try.prog (w.alloc (.cells #[.int .i64 0, .int .i64 0, .int .i64 0, .int .i64 0, .int .i64 0, .int .i64 0, .int .i64 0] 46)) = .ok () W3 ∧ MB W3 w.heap.size b ∧ Below w.heap.size w W3 ∧ w.heap.size + 1 = W3.heap.size := by
  have hX : Blk (w.alloc (.cells #[.int .i64 0, .int .i64 0, .int .i64 0, .int .i64 0, .int .i64 0, .int .i64 0, .int .i64 0] 46)) w.heap.size 46 #[.int .i64 0, .int .i64 0, .int .i64 0, .int .i64 0, .int .i64 0, .int .i64 0, .int .i64 0] := Blk.new _ _ _
  subst hL
  have := run_storeCells_from (P := Try.prog) w.heap.size 46 (bodL b) 0 _ _ hX (by simp [bodL]) (fun v hv => (Array.all_eq_true_iff_forall_mem.1 (bodL_one b)) v (by simpa using hv))
  refine ⟨_, this, ?_, ?_, by simp⟩
  · exact hX.setRow _
  · exact ((Below.refl _ w).alloc (Nat.le_refl _) _).trans ((touch_setRow _ w.heap.size _).below (by simp) (fun k hk => by omega))

set_option maxRecDepth 100000 in
set_option maxHeartbeats 4000000 in
theorem rfire_any (w : World) (C : Array Value) (f : F) (i n : Nat) (LC : Let C f) (hi : i < 2) (hn : n < 65536) (hb : BodyOk (bod f (2 + i * 7))) :
    Calls Try.prog 76 #[.agg C, .int .i64 i, .int .u16 n] w fun e w' => ∃ C', Let C' (fireF f i n) ∧ e = .returned (.agg C') ∧ Below w.heap.size w w' := by
  obtain ⟨W1, hW1⟩ : ∃ W1, W1 = (w.alloc (.cells C 53)).alloc (.cells Try.zeroCells53 53) := ⟨_, rfl⟩
  have hS : SB W1 w.heap.size 53 f := by
    rw [hW1]
    exact (LC.sb (Blk.new w 53 C)).alloc _
  have hR : Blk W1 (w.heap.size + 1) 53 Try.zeroCells53 := by
    rw [hW1]
    have := Blk.new (w.alloc (.cells C 53)) 53 Try.zeroCells53
    simpa using this
  have hB : Below w.heap.size w W1 := by rw [hW1]; exact ((Below.refl _ w).alloc (Nat.le_refl _) _).alloc (by simp) _
  have hz : w.heap.size + 2 = W1.heap.size := by rw [hW1]; simp
  have pH := Lib.hid (fun W => has_any W n 16 hn (by omega) (by omega))
  have hc0 := hb.c0
  have hc1 := hb.c1
  have hy0 := hb.y0
  have hy1 := hb.y1
  have hfc : -1 ≤ (bod f (2 + i * 7)).facing ∧ (bod f (2 + i * 7)).facing ≤ 1 := by rcases hb.fc with e | e <;> omega
  have HF := Lib.hid (show fireF f i n = if 0 < (bod f (2 + i * 7)).cool then put f (2 + i * 7 + 5) ((bod f (2 + i * 7)).cool - 1)
    else if n / 16 % 2 = 1 ∧ freeK f < 8 then put (setS f (16 + freeK f * 6) (shotOf (bod f (2 + i * 7)) i)) (2 + i * 7 + 5) 15 else f from rfl)
  have hrB := hS.bodR hi
  have i1 : (0 : Int) ≤ (i : Int) := by omega
  have i2 : (i : Int) < 2 := by omega
  obtain ⟨b, hbb⟩ : ∃ b, bod f (2 + i * 7) = b := ⟨_, rfl⟩
  rw [hbb] at hc0 hc1 hy0 hy1 HF hfc hrB
  obtain ⟨Lb, hLb⟩ : ∃ Lb, Lb = bodL b := ⟨_, rfl⟩
  rw [← hLb] at hrB
  have hLs : Lb.length = 7 := by rw [hLb]; rfl
  have hiB : (Try.prog.info? 46).map (·.size) = some Lb.length := by rw [hLs]; exact infoB
  have HA := Lib.hid (fun W => alloc_body W Lb b hLb)
  have HS := Lib.hid hS
  have HR := Lib.hid hR
  have HB := Lib.hid hB
  have HI := Lib.hid hi
  have HZ := Lib.hid hz
  have HLC := Lib.hid LC
  clear hS hb hi hR hB hbb hLb hz LC
  go_enter Try.func76, Try.ntmps76
  go_upto_region 1 with fail
  rw [← hW1]
  clear hW1
  obtain ⟨W2, hrun, M2, b2, hz2⟩ := HA.out W1
  clear HA
  go_upto_region 2 with (refine wpList_load_mid (by rfl) 46 _ (by rfl) w.heap.size (2 + i * 7) (by rfl) Lb _ hrB Try.underlying46 (by rfl) hiB ?_)
  clear hrun hrB hiB hLs
  have hz := HZ.out
  have S2 := HS.out.below b2 HS.out.lt
  have R2 := HR.out.below b2 HR.out.lt
  have B2 := HB.out.trans (b2.mono (by omega))
  clear HS HR HB b2
  obtain ⟨gb, hgb⟩ : ∃ gb, gb = W1.heap.size := ⟨_, rfl⟩
  rw [← hgb] at M2 ⊢
  have hg1 : w.heap.size + 2 = gb := by omega
  clear hz hz2 hgb HZ
  have HS := Lib.hid S2
  have HR := Lib.hid R2
  have HB := Lib.hid B2
  have HM := Lib.hid M2
  have HG := Lib.hid hg1
  have c5 := M2.c5
  clear S2 R2 B2 M2 hg1
  by_cases h : 0 < b.cool
  · have HF2 := HF.out
    rw [if_pos h] at HF2
    have HF3 := Lib.hid HF2
    clear HF2 HF
    have S3 := HS.out.setInt (j := 2 + i * 7 + 5) (by have := HI.out; omega) (by omega) (by have := HI.out; omega) (b.cool - 1)
    have R3 := Blk.far HR.out (p := ⟨w.heap.size, 2 + i * 7 + 5, none⟩) (by simp) (.int .i64 (b.cool - 1))
    have B3 := HB.out.setCell (p := ⟨w.heap.size, 2 + i * 7 + 5, none⟩) (by simp) (.int .i64 (b.cool - 1))
    have f5 := HS.out.fr (2 + i * 7 + 5)
    have k5 := HS.out.int (j := 2 + i * 7 + 5) (by have := HI.out; omega) (by omega) (by have := HI.out; omega)
    have H3 := Lib.hid S3
    have HR3 := Lib.hid R3
    have HB3 := Lib.hid B3
    clear S3 R3 B3
    go_upto_region 4 with fail
    clear f5 k5 c5
    have S3 := H3.out
    rw [← HF3.out] at S3
    obtain ⟨C9, LC9⟩ := let_of (fireF f i n)
    have hS9 := LC9.blk S3
    have R9 := HR3.out
    have B9 := HB3.out
    have hzs : Try.zeroCells53.size = C9.size := by rw [LC9.size, ← stA_zero]; exact stA_size _
    have hif := LC9.info
    have hone := LC9.one
    have HC9 := Lib.hid LC9
    clear LC9
    go_wp2_with (first | (refine wpList_load_blk (by rfl) 53 _ (by rfl) w.heap.size (by rfl) _ C9 _ hS9 Try.underlying53 (by rfl) hif ?_) | (refine wpList_store_blk (by rfl) 53 _ _ (by rfl) (w.heap.size + 1) C9 (by rfl) (by rfl) _ _ R9 hif hzs hone ?_; intro W6 hd6 ht6) | fail)
    refine bodyPost_ret (v := .agg C9) (results_blk Try.results76 _ _ (w.heap.size + 1) _ _ _ (by rfl) hd6 Try.underlying53 (by rfl) hif) rfl ⟨C9, HC9.out, rfl, ?_⟩
    exact B9.trans (ht6.below B9.size (fun k hk => by omega))
  · have HF2 := HF.out
    rw [if_neg h] at HF2
    have HF3 := Lib.hid HF2
    clear HF2 HF
    go_upto_region 6 with fail
    go_loopw [8] (fun kv wr => ∃ k : Nat, k ≤ 8 ∧ kv = .int .i64 k ∧ (∀ j, j < k → f (16 + j * 6) ≠ 0) ∧ wr = W2) (fun kv _ => 8 - (intOf kv).toNat)
    case atStart => exact ⟨0, by omega, rfl, fun j hj => by omega, by first | trivial | rfl⟩
    case round =>
      obtain ⟨k, hk, rfl, hall, rfl⟩ := hrel
      by_cases hlt : k < 8
      · have k1 : (0 : Int) ≤ (k : Int) := by omega
        have k2 : (k : Int) < 8 := by omega
        have con := HS.out.on hlt
        by_cases hon : f (16 + k * 6) = 0
        · rw [onB_no hon] at con
          have hfree : freeK f = k := freeK_eq f k hk hall (fun _ => hon)
          by_cases hbt : n / 16 % 2 = 1
          · have e16 : decide (n / 16 % 2 = 1) = true := by rw [hbt]; rfl
            rw [e16] at pH
            have HF4 := HF3.out
            rw [hfree, if_pos ⟨hbt, hlt⟩] at HF4
            have HF5 := Lib.hid HF4
            have HK := Lib.hid hlt
            have hk8 : ((k : Int) == 8) = false := by simp; omega
            clear HF4 HF3 hfree hon hall hlt e16 hbt
            go_upto_region 8 with fail
            go_wp2_with fail
            refine (pH.out _).mono ?_
            rintro e w2 ⟨rfl, rfl⟩
            clear hk8 con
            have HSH := Lib.hid (show shotOf b i = ⟨1, b.x, hold (b.y + 65536), clampV b.facing (-1) 1 * 393216, i, 60⟩ from rfl)
            have hcl := clampV_in b.facing (a := -1) (b := 1) (by omega)
            have hcf : clampV b.facing (-1) 1 = b.facing := by unfold clampV; omega
            have m1 : (if b.facing < -1 then -1 else b.facing) = b.facing := by split <;> omega
            have m2 : (if 1 < b.facing then 1 else b.facing) = b.facing := by split <;> omega
            have c6 := HM.out.c6
            rw [hcf] at HSH
            clear hcl hcf c5
            go_upto_region 11 with fail
            clear c6 m1 m2
            have q1 : IntKind.i64.wrap (b.facing * 6) = b.facing * 6 := IntWalk.i64_in _ (by omega)
            have q2 : IntKind.i64.wrap (b.facing * 6 * 65536) = b.facing * 6 * 65536 := IntWalk.i64_in _ (by omega)
            have c0 := HM.out.c0
            have c1 := HM.out.c1
            have pA := Lib.hid (fun W => Num.add_any W b.y 65536 (by omega) (by omega) (by omega) (by omega))
            generalize hold (b.y + 65536) = yv at *
            have hs6 : ∀ W, RowKit.Below wr.heap.size wr W → ∃ W', storeR Try.prog 49 (.pointer (some ⟨w.heap.size, 16 + k * 6, none⟩)) (.agg #[.bool true, .int .i64 b.x, .int .i64 yv, .int .i64 (b.facing * 6 * 65536), .int .i64 i, .int .i64 60]) W = .ok .skip W' ∧ SB W' w.heap.size 53 (setS f (16 + k * 6) (shotOf b i)) ∧ MB W' gb b ∧ Blk W' (w.heap.size + 1) 53 Try.zeroCells53 ∧ RowKit.Below w.heap.size w W' := fun W hW => by
              have SW := HS.out.below hW HS.out.lt
              have T : Touch (fun k => k = w.heap.size) W (W.setCells w.heap.size (16 + k * 6) (shoL (shotOf b i))) := touch_setCells (S := fun k => k = w.heap.size) (Touch.refl _ _) _ (.inl rfl) _ _
              have BW := HB.out.trans (hW.mono HB.out.size)
              have hgg := HG.out
              refine ⟨W.setCells w.heap.size (16 + k * 6) (shoL (shotOf b i)), storeR_mid (SW.there (by have := HK.out; simp; omega)) infoS (by simp [Value.oneCell']) ?_, SW.setShot HK.out _, Blk.touch (HM.out.below hW (Blk.lt HM.out)) T (by omega), (HR.out.below hW HR.out.lt).touch T (by omega), BW.trans (T.below BW.size (fun k hk => by omega))⟩
              rw [HSH.out, show b.facing * 393216 = b.facing * 6 * 65536 by omega]
              rfl
            have HT := Lib.hid hs6
            clear hs6
            go_region_held3 (fun w' => w'.cell? ⟨gb, 0, none⟩ = some (.int .i64 b.x) ∧ w'.cell? ⟨gb, 1, none⟩ = some (.int .i64 b.y)) (first | exact ⟨c0, c1⟩ | exact ⟨k0, k1⟩ | exact ⟨l0, l1⟩)
              (first
                | (go_at_call 128; refine (pA.out _).mono ?_; rintro e w3 ⟨rfl, b3⟩; have b3' : RowKit.Below wr.heap.size wr w3 := ⟨b3.os, b3.tape, b3.output, b3.size, b3.block⟩; obtain ⟨w4, hst, S4, M4, R4, B4⟩ := HT.out _ b3'; have l0 := M4.c0; have l1 := M4.c1; have M3 := HM.out.below b3' (Blk.lt HM.out); have k0 := M3.c0; have k1 := M3.c1))
            have hi3 := HI.out
            have z5 := S4.int (j := 2 + i * 7 + 5) (by omega) (by omega) (by omega)
            have f5 := S4.fr (2 + i * 7 + 5)
            have S5 := S4.setInt (j := 2 + i * 7 + 5) (by omega) (by omega) (by omega) 15
            have R5 := Blk.far R4 (p := ⟨w.heap.size, 2 + i * 7 + 5, none⟩) (by simp) (.int .i64 15)
            have B5 := B4.setCell (p := ⟨w.heap.size, 2 + i * 7 + 5, none⟩) (by simp) (.int .i64 15)
            rw [← HF5.out] at S5
            have H5 := Lib.hid S5
            have HR5 := Lib.hid R5
            have HB5 := Lib.hid B5
            clear hst S4 M4 R4 B4 l0 l1 M3 k0 k1 HT pA c0 c1 q1 q2 b3 b3' hi3 S5 R5 B5 pH
            go_upto_region 13 with fail
            clear z5 f5
            obtain ⟨C9, LC9⟩ := let_of (fireF f i n)
            have hS9 := LC9.blk H5.out
            have R9 := HR5.out
            have B9 := HB5.out
            have hzs : Try.zeroCells53.size = C9.size := by rw [LC9.size, ← stA_zero]; exact stA_size _
            have hif := LC9.info
            have hone := LC9.one
            have HC9 := Lib.hid LC9
            clear LC9
            go_wp2_with (first | (refine wpList_load_blk (by rfl) 53 _ (by rfl) w.heap.size (by rfl) _ C9 _ hS9 Try.underlying53 (by rfl) hif ?_) | (refine wpList_store_blk (by rfl) 53 _ _ (by rfl) (w.heap.size + 1) C9 (by rfl) (by rfl) _ _ R9 hif hzs hone ?_; intro W6 hd6 ht6) | fail)
            refine bodyPost_ret (v := .agg C9) (results_blk Try.results76 _ _ (w.heap.size + 1) _ _ _ (by rfl) hd6 Try.underlying53 (by rfl) hif) rfl ⟨C9, HC9.out, rfl, ?_⟩
            exact B9.trans (ht6.below B9.size (fun k hk => by omega))
          · have e16 : decide (n / 16 % 2 = 1) = false := by simpa using hbt
            rw [e16] at pH
            have HF4 := HF3.out
            rw [if_neg (fun h => hbt h.1)] at HF4
            have HF5 := Lib.hid HF4
            clear HF4 HF3 hfree hon hall e16 hbt
            go_upto_region 8 with fail
            go_wp2_with fail
            refine (pH.out _).mono ?_
            rintro e w2 ⟨rfl, rfl⟩
            have S9 := HS.out
            rw [← HF5.out] at S9
            go_upto_region 9 with fail
            obtain ⟨C9, LC9⟩ := let_of (fireF f i n)
            have hS9 := LC9.blk S9
            have R9 := HR.out
            have B9 := HB.out
            have hzs : Try.zeroCells53.size = C9.size := by rw [LC9.size, ← stA_zero]; exact stA_size _
            have hif := LC9.info
            have hone := LC9.one
            have HC9 := Lib.hid LC9
            clear LC9
            go_wp2_with (first | (refine wpList_load_blk (by rfl) 53 _ (by rfl) w.heap.size (by rfl) _ C9 _ hS9 Try.underlying53 (by rfl) hif ?_) | (refine wpList_store_blk (by rfl) 53 _ _ (by rfl) (w.heap.size + 1) C9 (by rfl) (by rfl) _ _ R9 hif hzs hone ?_; intro W6 hd6 ht6) | fail)
            refine bodyPost_ret (v := .agg C9) (results_blk Try.results76 _ _ (w.heap.size + 1) _ _ _ (by rfl) hd6 Try.underlying53 (by rfl) hif) rfl ⟨C9, HC9.out, rfl, ?_⟩
            exact B9.trans (ht6.below B9.size (fun k hk => by omega))
        · rw [onB_yes hon] at con
          have HALL := Lib.hid (show ∀ j, j < k + 1 → f (16 + j * 6) ≠ 0 from fun j hj => by
            by_cases e : j = k
            · subst e; exact hon
            · exact hall j (by omega))
          clear hall hon
          go_wp2_with fail
          go_roundw
          case rel => exact ⟨k + 1, by omega, by go_num, HALL.out, by first | trivial | rfl⟩
          case measure => simp [intOf]; omega
      · obtain rfl : k = 8 := by omega
        have HF4 := HF3.out
        rw [if_neg (fun h => by have := freeK_free f h.2; exact hall _ h.2 this)] at HF4
        have HF5 := Lib.hid HF4
        clear HF4 hall HF3
        have S9 := HS.out
        rw [← HF5.out] at S9
        by_cases hbt : n / 16 % 2 = 1
        · have e16 : decide (n / 16 % 2 = 1) = true := by rw [hbt]; rfl
          rw [e16] at pH
          clear e16 hbt hlt
          go_upto_region 8 with fail
          go_wp2_with fail
          refine (pH.out _).mono ?_
          rintro e w2 ⟨rfl, rfl⟩
          go_upto_region 9 with fail
          obtain ⟨C9, LC9⟩ := let_of (fireF f i n)
          have hS9 := LC9.blk S9
          have R9 := HR.out
          have B9 := HB.out
          have hzs : Try.zeroCells53.size = C9.size := by rw [LC9.size, ← stA_zero]; exact stA_size _
          have hif := LC9.info
          have hone := LC9.one
          have HC9 := Lib.hid LC9
          clear LC9
          go_wp2_with (first | (refine wpList_load_blk (by rfl) 53 _ (by rfl) w.heap.size (by rfl) _ C9 _ hS9 Try.underlying53 (by rfl) hif ?_) | (refine wpList_store_blk (by rfl) 53 _ _ (by rfl) (w.heap.size + 1) C9 (by rfl) (by rfl) _ _ R9 hif hzs hone ?_; intro W6 hd6 ht6) | fail)
          refine bodyPost_ret (v := .agg C9) (results_blk Try.results76 _ _ (w.heap.size + 1) _ _ _ (by rfl) hd6 Try.underlying53 (by rfl) hif) rfl ⟨C9, HC9.out, rfl, ?_⟩
          exact B9.trans (ht6.below B9.size (fun k hk => by omega))
        · have e16 : decide (n / 16 % 2 = 1) = false := by simpa using hbt
          rw [e16] at pH
          clear e16 hbt hlt
          go_upto_region 8 with fail
          go_wp2_with fail
          refine (pH.out _).mono ?_
          rintro e w2 ⟨rfl, rfl⟩
          go_upto_region 9 with fail
          obtain ⟨C9, LC9⟩ := let_of (fireF f i n)
          have hS9 := LC9.blk S9
          have R9 := HR.out
          have B9 := HB.out
          have hzs : Try.zeroCells53.size = C9.size := by rw [LC9.size, ← stA_zero]; exact stA_size _
          have hif := LC9.info
          have hone := LC9.one
          have HC9 := Lib.hid LC9
          clear LC9
          go_wp2_with (first | (refine wpList_load_blk (by rfl) 53 _ (by rfl) w.heap.size (by rfl) _ C9 _ hS9 Try.underlying53 (by rfl) hif ?_) | (refine wpList_store_blk (by rfl) 53 _ _ (by rfl) (w.heap.size + 1) C9 (by rfl) (by rfl) _ _ R9 hif hzs hone ?_; intro W6 hd6 ht6) | fail)
          refine bodyPost_ret (v := .agg C9) (results_blk Try.results76 _ _ (w.heap.size + 1) _ _ _ (by rfl) hd6 Try.underlying53 (by rfl) hif) rfl ⟨C9, HC9.out, rfl, ?_⟩
          exact B9.trans (ht6.below B9.size (fun k hk => by omega))
end Go.Proofs.Ytckkpgopddnkiaa.Gm
