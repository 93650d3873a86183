/-
  The walk of game.fire.
-/
import Derived.Test.YtblnfkhaicjeaaaGs
namespace Go.Proofs.Ytblnfkhaicjeaaa.Gm
open Go.RowKit Go.Proofs.Ytblnfkhaicjeaaa.Num
set_option linter.all false

theorem infoS : (Try.prog.info? 29).map (·.size) = some 6 := by kernel_rfl
theorem infoB : (Try.prog.info? 26).map (·.size) = some 7 := by kernel_rfl
theorem shoL_one (s : Shot) : (shoL s).toArray.all (·.oneCell') = true := by simp [shoL, Value.oneCell']
theorem bodL_one (b : Body) : (bodL b).toArray.all (·.oneCell') = true := by simp [bodL, Value.oneCell']

set_option maxRecDepth 100000 in
set_option maxHeartbeats 4000000 in
theorem fire_any (w : World) (g : Nat) (t : TypeId) (f : F) (i n : Nat) (hi : i < 2) (hn : n < 65536) (hS : SB w g t f) (hb : BodyOk (bod f (2 + i * 7))) :
    Calls Try.prog 64 #[.pointer (some ⟨g, 0, none⟩), .int .i64 i, .int .u16 n] w fun e w' => e = .returned (.tuple #[]) ∧ SB w' g t (fireF f i n) ∧ TG g w w' := by
  have a16 := and16 hn
  obtain ⟨x, y, c, fc⟩ : ∃ x : Unit, ∃ y : Unit, ∃ c : Unit, True := ⟨(), (), (), trivial⟩
  clear x y c fc
  have hc0 := hb.c0
  have hc1 := hb.c1
  have hy0 := hb.y0
  have hy1 := hb.y1
  obtain ⟨cx, cy, -, -, -, cc, cf, fr⟩ := hS.bodyAt hi
  have HF := Lib.hid (show fireF f i n = if 0 < (bod f (2 + i * 7)).cool then put f (2 + i * 7 + 5) ((bod f (2 + i * 7)).cool - 1)
    else if n / 16 % 2 = 1 ∧ freeK f < 8 then put (setS f (16 + freeK f * 6) (shotOf (bod f (2 + i * 7)) i)) (2 + i * 7 + 5) 15 else f from rfl)
  have fcool := fr (2 + i * 7 + 5)
  have HS := Lib.hid hS
  have HI := Lib.hid hi
  have i1 : (0 : Int) ≤ (i : Int) := by omega
  have i2 : (i : Int) < 2 := by omega
  obtain ⟨b, hbb⟩ : ∃ b, bod f (2 + i * 7) = b := ⟨_, rfl⟩
  rw [hbb] at hc0 hc1 hy0 hy1 cx cy cc cf HF
  clear hS hb hi fr hbb
  by_cases h : 0 < b.cool
  · have HF2 := HF.out
    rw [if_pos h] at HF2
    have HF3 := Lib.hid HF2
    clear HF2 HF a16 cx cy cf
    go_enter Try.func64, Try.ntmps64
    go_wp2_with fail
    refine bodyPost_ret (results_none rfl _ _ _) rfl ⟨rfl, ?_, ?_⟩
    · rw [HF3.out]
      have := HI.out
      exact HS.out.setInt (by omega) (by omega) (by omega) _
    · exact TG.set (Touch.refl _ _) _ _
  · have HF2 := HF.out
    rw [if_neg h] at HF2
    have HF3 := Lib.hid HF2
    clear HF2 HF
    have hbt : n / 16 % 2 = 1 ∨ n / 16 % 2 = 0 := by omega
    rcases hbt with hbt | hbt
    · rw [hbt] at a16 HF3
      simp only [Nat.zero_mul, Nat.one_mul] at a16
      have a16' : bits .and .u16 (n : Int) 16 = _ := a16
      clear a16 hbt
      have hh := clampV_in b.facing (a := -1) (b := 1) (by omega)
      have HSh := Lib.hid (show shotOf b i = ⟨1, b.x, hold (b.y + 65536), clampV b.facing (-1) 1 * 393216, i, 60⟩ from rfl)
      have pA := Lib.hid (fun W => (wadd_any W b.y 65536 (by omega) (by omega) (by omega) (by omega)).mono (R' := fun e w'' => e = .returned (.int .i64 (hold (b.y + 65536))) ∧ w'' = W) (fun _ _ h => ⟨h.1, h.2.symm⟩))
      have pC := Lib.hid (fun W => (clamp_any W b.facing (-1) 1).mono (R' := fun e w'' => e = .returned (.int .i64 (clampV b.facing (-1) 1)) ∧ w'' = W) (fun _ _ h => ⟨h.1, h.2.symm⟩))
      generalize hold (b.y + 65536) = yv at *
      generalize clampV b.facing (-1) 1 = cl at *
      have q1 : IntKind.i64.wrap (cl * 393216) = cl * 393216 := IntWalk.i64_in _ (by omega)
      clear hc0 hc1
      go_enter Try.func64, Try.ntmps64
      go_wp2_with fail
      go_loopw [28] (fun kv wr => ∃ k : Nat, k ≤ 8 ∧ kv = .int .i64 k ∧ (∀ j, j < k → f (16 + j * 6) ≠ 0) ∧ wr = w) (fun kv _ => 8 - (intOf kv).toNat)
      case atStart => exact ⟨0, by omega, rfl, fun j hj => by omega, by first | trivial | rfl⟩
      case round =>
        obtain ⟨k, hk, rfl, hall, rfl⟩ := hrel
        by_cases hlt : k < 8
        · have k1 : (0 : Int) ≤ (k : Int) := by omega
          have k2 : (k : Int) < 8 := by omega
          have con := HS.out.on hlt
          by_cases hon : f (16 + k * 6) = 0
          · rw [onB_no hon] at con
            have hfree : freeK f = k := freeK_eq f k hk hall (fun _ => hon)
            have HF4 := HF3.out
            rw [hfree, if_pos ⟨by first | trivial | rfl, hlt⟩] at HF4
            have HF5 := Lib.hid HF4
            have HK := Lib.hid hlt
            have ht := HS.out.drew.there (o := 16 + k * 6) (n := 6) (by omega)
            clear HF4 HF3 hfree hon hall hlt
            go_upto_region 8 with fail
            refine wp_region_still_tail 22 (by kernel_rfl) (by kernel_rfl) ?_
            simp only [List.take_succ_cons, List.take_zero, List.drop_succ_cons, List.drop_zero]
            iterate 10 still_step
            still_call (pA.out _)
            iterate 4 still_step
            still_call (pC.out _)
            iterate 6 still_step
            refine wpStill_nil ?_
            change wpList _ _ _ _ _ (World.drew _)
            have HS2 := HS.out.drew.setShot HK.out (shotOf b i)
            have T2 : TG g wr (wr.drew.setCells g (16 + k * 6) (shoL (shotOf b i))) := touch_cells (S := fun k => k = g) (Touch.refl _ _).drew g (.inl rfl) _ _
            refine wpList_store_mid (by rfl) 29 _ _ (by rfl) g (16 + k * 6) #[.bool true, .int .i64 b.x, .int .i64 yv, .int .i64 (cl * 393216), .int .i64 i, .int .i64 60] (by rfl) (by rfl) ht infoS (by simp [Value.oneCell']) ?_
            rw [HSh.out] at HS2 T2
            change wpList _ _ _ _ _ (World.setCells (World.drew _) g (16 + k * 6) (shoL ⟨1, b.x, yv, cl * 393216, i, 60⟩))
            rw [HSh.out] at HF5
            generalize wr.drew.setCells g (16 + k * 6) (shoL ⟨1, b.x, yv, cl * 393216, i, 60⟩) = W2 at *
            have hi3 := HI.out
            have c5 := HS2.int (j := 2 + i * 7 + 5) (by omega) (by omega) (by omega)
            have f5 := HS2.fr (2 + i * 7 + 5)
            have R := HS2.setInt (j := 2 + i * 7 + 5) (by omega) (by omega) (by omega) 15
            have RT := TG.set T2 (2 + i * 7 + 5) (.int .i64 15)
            clear hi3 HS2 T2 con ht q1 pA pC
            go_wp2_with fail
            refine bodyPost_ret (results_none rfl _ _ _) rfl ⟨rfl, ?_, ?_⟩
            · rw [HF5.out]
              with_reducible exact R
            · with_reducible exact RT
          · rw [onB_yes hon] at con
            have HALL := Lib.hid (show ∀ j, j < k + 1 → f (16 + j * 6) ≠ 0 from fun j hj => by
              by_cases e : j = k
              · subst e; exact hon
              · exact hall j (by omega))
            clear hall hon
            go_wp2_with fail
            go_roundw
            case rel => exact ⟨k + 1, by omega, by go_num, HALL.out, by first | trivial | rfl⟩
            case measure => simp [intOf]; omega
        · obtain rfl : k = 8 := by omega
          have HF4 := HF3.out
          rw [if_neg (fun h => by have := freeK_free f h.2; exact hall _ h.2 this)] at HF4
          have HF5 := Lib.hid HF4
          clear HF4 hall
          go_wp2_with fail
          go_end0
          exact ⟨rfl, by rw [HF5.out]; exact HS.out, Touch.refl _ _⟩
    · rw [hbt] at a16 HF3
      simp only [Nat.zero_mul, Nat.one_mul] at a16
      have a16' : bits .and .u16 (n : Int) 16 = _ := a16
      have HF4 := HF3.out
      rw [if_neg (by omega)] at HF4
      have HF5 := Lib.hid HF4
      clear HF4 HF3 a16 hbt
      go_enter Try.func64, Try.ntmps64
      go_wp2_with fail
      refine bodyPost_ret (results_none rfl _ _ _) rfl ⟨rfl, ?_, Touch.refl _ _⟩
      rw [HF5.out]
      exact HS.out
end Go.Proofs.Ytblnfkhaicjeaaa.Gm
