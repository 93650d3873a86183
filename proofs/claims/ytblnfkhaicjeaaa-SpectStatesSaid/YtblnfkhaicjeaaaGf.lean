/-
  The walk of game.fall.
-/
import Derived.Test.YtblnfkhaicjeaaaGw
namespace Go.Proofs.Ytblnfkhaicjeaaa.Gm
open Go.RowKit Go.Proofs.Ytblnfkhaicjeaaa.Num
set_option linter.all false

set_option maxRecDepth 100000 in
set_option maxHeartbeats 4000000 in
theorem fall_any (w : World) (g : Nat) (t : TypeId) (f : F) (i n : Nat) (b : Body) (hi : i < 2) (hn : n < 65536) (hS : BS w g t f i b) (hb : BodyOk b) :
    Calls Try.prog 62 #[.pointer (some ⟨g, 2 + i * 7, none⟩), .int .u16 n] w fun e w' => e = .returned (.tuple #[]) ∧ BS w' g t f i (fallB b n) ∧ TG g w w' := by
  have a4 := and4 hn
  have HI := Lib.hid hi
  have hj := jumpV_in hb n
  have hd := dropV_in hb n
  have hy0 := hb.y0
  have hy1 := hb.y1
  have HJ : (n / 4 % 2 = 1 ∧ (b.y == 0) = true ∧ Hid (jumpV b n = 327680)) ∨ (n / 4 % 2 = 1 ∧ (b.y == 0) = false ∧ Hid (jumpV b n = b.vy)) ∨ (n / 4 % 2 = 0 ∧ Hid (jumpV b n = b.vy)) := by
    unfold jumpV
    by_cases c : n / 4 % 2 = 1
    · by_cases c2 : b.y = 0
      · exact .inl ⟨c, by simpa using c2, Lib.hid (by rw [if_pos ⟨c, c2⟩])⟩
      · exact .inr (.inl ⟨c, by simpa using c2, Lib.hid (by rw [if_neg (fun h => c2 h.2)])⟩)
    · exact .inr (.inr ⟨by omega, Lib.hid (by rw [if_neg (fun h => c h.1)])⟩)
  have HD : (0 < b.y ∧ Hid (dropV b n = hold (jumpV b n - 21845))) ∨ (¬ 0 < b.y ∧ (jumpV b n == 0) = false ∧ Hid (dropV b n = hold (jumpV b n - 21845))) ∨ (¬ 0 < b.y ∧ (jumpV b n == 0) = true ∧ Hid (dropV b n = jumpV b n)) := by
    unfold dropV
    by_cases c : 0 < b.y
    · exact .inl ⟨c, Lib.hid (by rw [if_pos (.inl c)])⟩
    · by_cases c2 : jumpV b n = 0
      · exact .inr (.inr ⟨c, by simpa using c2, Lib.hid (by rw [if_neg (by omega)])⟩)
      · exact .inr (.inl ⟨c, by simpa using c2, Lib.hid (by rw [if_pos (.inr c2)])⟩)
  have HF := Lib.hid (show fallB b n = if hold (b.y + dropV b n) ≤ 0 then { b with y := 0, vy := 0 } else { b with y := hold (b.y + dropV b n), vy := dropV b n } from rfl)
  generalize fallB b n = fb at *
  generalize dropV b n = dv at *
  generalize jumpV b n = jv at *
  have HD' := Lib.hid HD
  clear HD hb
  obtain ⟨-, c1, -, c3, -, -, -, fr⟩ := hS.cells hi
  have f3 := fr (2 + i * 7 + 3)
  have HS := Lib.hid hS
  clear hS fr hi
  have K : ∃ (q : Bool) (q2 : Bool), True := ⟨true, true, trivial⟩
  clear K
  rcases HJ with ⟨h, h2, E⟩ | ⟨h, h2, E⟩ | ⟨h, E⟩
  all_goals
    rw [h] at a4
    simp only [Nat.zero_mul, Nat.one_mul] at a4
    have a4' : bits .and .u16 (n : Int) 4 = _ := a4
    clear a4 h
    go_enter Try.func62, Try.ntmps62
    go_upto_region 2 with fail
    first
      | (have B1 : BS (w.setCell ⟨g, 2 + i * 7 + 3, none⟩ (.int .i64 327680)) g t f i { b with vy := jv } := (by rw [E.out]; with_reducible exact HS.out.vy HI.out 327680)
         have T1 : TG g w (w.setCell ⟨g, 2 + i * 7 + 3, none⟩ (.int .i64 327680)) := TG.set (Touch.refl _ _) _ _
         generalize w.setCell ⟨g, 2 + i * 7 + 3, none⟩ (.int .i64 327680) = W1 at *)
      | (have B1 : BS w g t f i { b with vy := jv } := (by rw [E.out]; with_reducible exact HS.out)
         have T1 : TG g w w := Touch.refl _ _)
    clear c1 c3 f3 a4'
    obtain ⟨-, y1, -, v1, -, -, -, fr1⟩ := B1.cells HI.out
    have f3 := fr1 (2 + i * 7 + 3)
    have f1 := fr1 (2 + i * 7 + 1)
    have pS := Lib.hid (fun w => wsub_any w jv 21845 hj.1 hj.2 (by omega) (by omega))
    have B1' := Lib.hid B1
    clear B1 fr1
    have HD2 := HD'.out
    clear HD'
    rcases HD2 with ⟨hy, E2⟩ | ⟨hy, hz, E2⟩ | ⟨hy, hz, E2⟩
    · try (exfalso; simp only [beq_iff_eq, beq_eq_false_iff_ne, ne_eq] at h2; omega)
      all_goals
        go_wp2_with fail
        refine (pS.out _).mono ?_
        rintro e w' ⟨rfl, rfl⟩
        go_upto_region 4 with fail
        have B2 := B1'.out.vy HI.out (hold (jv - 21845))
        have T2 := TG.set T1 (2 + i * 7 + 3) (.int .i64 (hold (jv - 21845)))
        have E3 := Lib.hid E2.out.symm
        generalize hold (jv - 21845) = vv at *
        first
          | generalize W1.setCell ⟨g, 2 + i * 7 + 3, none⟩ (.int .i64 vv) = W2 at *
          | generalize w.setCell ⟨g, 2 + i * 7 + 3, none⟩ (.int .i64 vv) = W2 at *
        have HF2 := HF
        rw [← E3.out] at HF2 hd
        clear T1 B1' pS E E2 hy HF E3 y1 v1 f1 f3
        obtain ⟨-, y1, -, v1, -, -, -, fr1⟩ := B2.cells HI.out
        have f3 := fr1 (2 + i * 7 + 3)
        have f1 := fr1 (2 + i * 7 + 1)
        clear fr1
        have hA : ∀ W, Calls Try.prog 105 #[.int .i64 b.y, .int .i64 vv] W fun e w'' => e = .returned (.int .i64 (hold (b.y + vv))) ∧ w'' = W := fun W => (wadd_any W b.y vv (by omega) (by omega) (by omega) (by omega)).mono (fun _ _ h => ⟨h.1, h.2.symm⟩)
        have pA := Lib.hid hA
        clear hA
        have hb1 := hold_bd (b.y + vv)
        refine wp_region_still_tail 12 (by kernel_rfl) (by kernel_rfl) ?_
        simp only [List.take_succ_cons, List.take_zero, List.drop_succ_cons, List.drop_zero]
        repeat (first | still_step | still_call (pA.out _))
        refine wpStill_nil ?_
        change wpList _ _ _ _ _ (World.drew _)
        generalize hold (b.y + vv) = yv at *
        have B3 := B2.y HI.out yv
        have T3 := TG.set T2 (2 + i * 7 + 1) (.int .i64 yv)
        clear B2 T2 pA
        by_cases hc : yv ≤ 0
        · have HF3 := HF2.out
          rw [if_pos hc] at HF3
          have HF4 := Lib.hid HF3
          clear HF3
          have B4 := ((B3.y HI.out 0).vy HI.out 0).drew
          have T4 := (TG.set (TG.set T3 (2 + i * 7 + 1) (.int .i64 0)) (2 + i * 7 + 3) (.int .i64 0)).drew
          clear B3 T3 HF2
          go_wp2_with fail
          go_end0
          exact ⟨rfl, by rw [HF4.out]; with_reducible exact B4, by with_reducible exact T4⟩
        · have HF3 := HF2.out
          rw [if_neg hc] at HF3
          have HF4 := Lib.hid HF3
          clear HF3
          clear HF2
          go_wp2_with fail
          go_end0
          exact ⟨rfl, by rw [HF4.out]; with_reducible exact B3.drew, by with_reducible exact T3.drew⟩
    · try (exfalso; simp only [beq_iff_eq, beq_eq_false_iff_ne, ne_eq] at h2; omega)
      all_goals
        go_wp2_with fail
        refine (pS.out _).mono ?_
        rintro e w' ⟨rfl, rfl⟩
        go_upto_region 4 with fail
        have B2 := B1'.out.vy HI.out (hold (jv - 21845))
        have T2 := TG.set T1 (2 + i * 7 + 3) (.int .i64 (hold (jv - 21845)))
        have E3 := Lib.hid E2.out.symm
        generalize hold (jv - 21845) = vv at *
        first
          | generalize W1.setCell ⟨g, 2 + i * 7 + 3, none⟩ (.int .i64 vv) = W2 at *
          | generalize w.setCell ⟨g, 2 + i * 7 + 3, none⟩ (.int .i64 vv) = W2 at *
        have HF2 := HF
        rw [← E3.out] at HF2 hd
        clear hz T1 B1' pS E E2 hy HF E3 y1 v1 f1 f3
        obtain ⟨-, y1, -, v1, -, -, -, fr1⟩ := B2.cells HI.out
        have f3 := fr1 (2 + i * 7 + 3)
        have f1 := fr1 (2 + i * 7 + 1)
        clear fr1
        have hA : ∀ W, Calls Try.prog 105 #[.int .i64 b.y, .int .i64 vv] W fun e w'' => e = .returned (.int .i64 (hold (b.y + vv))) ∧ w'' = W := fun W => (wadd_any W b.y vv (by omega) (by omega) (by omega) (by omega)).mono (fun _ _ h => ⟨h.1, h.2.symm⟩)
        have pA := Lib.hid hA
        clear hA
        have hb1 := hold_bd (b.y + vv)
        refine wp_region_still_tail 12 (by kernel_rfl) (by kernel_rfl) ?_
        simp only [List.take_succ_cons, List.take_zero, List.drop_succ_cons, List.drop_zero]
        repeat (first | still_step | still_call (pA.out _))
        refine wpStill_nil ?_
        change wpList _ _ _ _ _ (World.drew _)
        generalize hold (b.y + vv) = yv at *
        have B3 := B2.y HI.out yv
        have T3 := TG.set T2 (2 + i * 7 + 1) (.int .i64 yv)
        clear B2 T2 pA
        by_cases hc : yv ≤ 0
        · have HF3 := HF2.out
          rw [if_pos hc] at HF3
          have HF4 := Lib.hid HF3
          clear HF3
          have B4 := ((B3.y HI.out 0).vy HI.out 0).drew
          have T4 := (TG.set (TG.set T3 (2 + i * 7 + 1) (.int .i64 0)) (2 + i * 7 + 3) (.int .i64 0)).drew
          clear B3 T3 HF2
          go_wp2_with fail
          go_end0
          exact ⟨rfl, by rw [HF4.out]; with_reducible exact B4, by with_reducible exact T4⟩
        · have HF3 := HF2.out
          rw [if_neg hc] at HF3
          have HF4 := Lib.hid HF3
          clear HF3
          clear HF2
          go_wp2_with fail
          go_end0
          exact ⟨rfl, by rw [HF4.out]; with_reducible exact B3.drew, by with_reducible exact T3.drew⟩
    · try (exfalso; simp only [beq_iff_eq, beq_eq_false_iff_ne, ne_eq] at h2; omega)
      all_goals
        go_upto_region 4 with fail
        have B2 := B1'.out
        have T2 := T1
        have HF2 := HF
        rw [E2.out] at HF2
        have hdd := hd
        clear T1 B1' pS E E2 hy HF hz hdd
        have hA : ∀ W, Calls Try.prog 105 #[.int .i64 b.y, .int .i64 jv] W fun e w'' => e = .returned (.int .i64 (hold (b.y + jv))) ∧ w'' = W := fun W => (wadd_any W b.y jv (by omega) (by omega) (by omega) (by omega)).mono (fun _ _ h => ⟨h.1, h.2.symm⟩)
        have pA := Lib.hid hA
        clear hA
        have hb1 := hold_bd (b.y + jv)
        refine wp_region_still_tail 12 (by kernel_rfl) (by kernel_rfl) ?_
        simp only [List.take_succ_cons, List.take_zero, List.drop_succ_cons, List.drop_zero]
        repeat (first | still_step | still_call (pA.out _))
        refine wpStill_nil ?_
        change wpList _ _ _ _ _ (World.drew _)
        generalize hold (b.y + jv) = yv at *
        have B3 := B2.y HI.out yv
        have T3 := TG.set T2 (2 + i * 7 + 1) (.int .i64 yv)
        clear B2 T2 pA
        by_cases hc : yv ≤ 0
        · have HF3 := HF2.out
          rw [if_pos hc] at HF3
          have HF4 := Lib.hid HF3
          clear HF3
          have B4 := ((B3.y HI.out 0).vy HI.out 0).drew
          have T4 := (TG.set (TG.set T3 (2 + i * 7 + 1) (.int .i64 0)) (2 + i * 7 + 3) (.int .i64 0)).drew
          clear B3 T3 HF2
          go_wp2_with fail
          go_end0
          exact ⟨rfl, by rw [HF4.out]; with_reducible exact B4, by with_reducible exact T4⟩
        · have HF3 := HF2.out
          rw [if_neg hc] at HF3
          have HF4 := Lib.hid HF3
          clear HF3
          clear HF2
          go_wp2_with fail
          go_end0
          exact ⟨rfl, by rw [HF4.out]; with_reducible exact B3.drew, by with_reducible exact T3.drew⟩
end Go.Proofs.Ytblnfkhaicjeaaa.Gm
