/-
  backstaylaw23.awake; == of two states.
-/
import Derived.Test.YtblnfkhaicjeaaaGnew
namespace Go.Proofs.Ytblnfkhaicjeaaa.Gm
open Go.RowKit Go.Sort Go.Proofs.Ytblnfkhaicjeaaa.Num Go.Proofs.Ytblnfkhaicjeaaa.Eql
set_option linter.all false

/-- The numbers fit their cells. -/
structure Wf (f : F) : Prop where
  i64 : ∀ j, j < 66 → -9223372036854775808 ≤ f j ∧ f j ≤ 9223372036854775807
  seed : 0 ≤ f 1 ∧ f 1 < 4294967296
theorem Inv.wf {fr sc : Int} {f : F} (h : Inv fr sc f) (h0 : 0 ≤ fr) (h1 : fr ≤ 4611686018427387904) (h2 : sc ≤ 4611686018427387904) : Wf f := by
  refine ⟨fun j hj => ?_, h.seed0, h.seed1⟩
  have s0 := h.seed0
  have s1 := h.seed1
  have f0 := h.frame
  have p0 := h.p0
  have p1 := h.p1
  have q0 := h.q0
  have q1 := h.q1
  by_cases a : j = 0
  · subst a; omega
  by_cases b : j = 1
  · subst b; omega
  by_cases c : j < 16
  · obtain ⟨i, r, hi, hr, rfl⟩ : ∃ i r, i < 2 ∧ r < 7 ∧ j = 2 + i * 7 + r := ⟨(j - 2) / 7, (j - 2) % 7, by omega, by omega, by omega⟩
    have hb := h.b i hi
    have x0 := hb.x0; have x1 := hb.x1; have y0 := hb.y0; have y1 := hb.y1; have v0 := hb.vx0; have v1 := hb.vx1; have u0 := hb.vy0; have u1 := hb.vy1
    have l0 := hb.l0; have l1 := hb.l1; have c0 := hb.c0; have c1 := hb.c1; have fc := hb.fc
    simp only [bod] at x0 x1 y0 y1 v0 v1 u0 u1 l0 l1 c0 c1 fc
    match r, hr with
    | 0, _ => simp only [Nat.add_zero]; omega
    | 1, _ => omega
    | 2, _ => omega
    | 3, _ => omega
    | 4, _ => omega
    | 5, _ => omega
    | 6, _ => omega
  by_cases d : j < 64
  · obtain ⟨k, r, hk, hr, rfl⟩ : ∃ k r, k < 8 ∧ r < 6 ∧ j = 16 + k * 6 + r := ⟨(j - 16) / 6, (j - 16) % 6, by omega, by omega, by omega⟩
    rcases h.s k hk with e | e
    · have z : ∀ r, r < 6 → f (16 + k * 6 + r) = 0 := by
        intro r hr
        simp only [sho, zeroS, Shot.mk.injEq] at e
        obtain ⟨e0, e1, e2, e3, e4, e5⟩ := e
        match r, hr with
        | 0, _ => exact e0
        | 1, _ => exact e1
        | 2, _ => exact e2
        | 3, _ => exact e3
        | 4, _ => exact e4
        | 5, _ => exact e5
      rw [z r hr]; omega
    · have o := e.on; have x0 := e.x0; have x1 := e.x1; have y0 := e.y0; have y1 := e.y1; have v := e.vx; have w := e.ow; have r0 := e.f0; have r1 := e.f1
      simp only [sho] at o x0 x1 y0 y1 v w r0 r1
      match r, hr with
      | 0, _ => simp only [Nat.add_zero]; omega
      | 1, _ => omega
      | 2, _ => omega
      | 3, _ => omega
      | 4, _ => omega
      | 5, _ => omega
  · have : j = 64 ∨ j = 65 := by omega
    rcases this with rfl | rfl <;> omega
theorem sameK_st {f : F} (h : Wf f) : SameK (stA zF).toList (stA f).toList := by
  refine ⟨by simp [stA], fun i a b ha hb => ?_⟩
  have hi : i < 66 := by
    have := (List.getElem?_eq_some_iff.1 ha).1
    simpa [stA] using this
  rw [Array.getElem?_toList, stA_get _ hi] at ha hb
  cases ha; cases hb
  have r := h.i64 i hi
  have s := h.seed
  by_cases e1 : i = 1
  · subst e1
    rw [cv_seed, cv_seed]
    exact .inr ⟨_, _, _, rfl, rfl, by simp [Lit.wf, IntKind.min, IntKind.max, IntKind.bits, IntKind.signed] <;> omega⟩
  · by_cases e2 : 16 ≤ i ∧ i < 64 ∧ (i - 16) % 6 = 0
    · exact .inl ⟨onB (zF i), onB (f i), by unfold cv; rw [if_neg e1, if_pos e2], by unfold cv; rw [if_neg e1, if_pos e2]⟩
    · rw [cv_int _ e1 e2, cv_int _ e1 e2]
      exact .inr ⟨_, _, _, rfl, rfl, by simp [Lit.wf, IntKind.min, IntKind.max, IntKind.bits, IntKind.signed] <;> omega⟩
theorem key33 : Try.prog.keyTypeAt 6 33 = true := by kernel_rfl
theorem tiled33 : Try.prog.tiled 6 33 = true := by kernel_rfl
theorem lits33 : (Try.prog.keyLits 6 33 (stA zF).toList).isSome = true := by kernel_rfl
theorem cells33 : (stA zF).toList.length = Try.prog.cellsOf 33 := by kernel_rfl
theorem guard33 : Try.prog.eqGuardType Try.prog.depth 33 = false := by kernel_rfl
theorem st_eql (w : World) {f g : F} (hf : Wf f) (hg : Wf g) : ∃ r : Bool, (Op.equalIn 10000 33 (.agg (stA f)) (.agg (stA g))).run Try.prog w = .ok r w ∧ (r = true ↔ stA f = stA g) :=
  eql_run (P := Try.prog) w (m := 6) (by decide) key33 tiled33 (by kernel_rfl) (stA zF).toList lits33 cells33 (sameK_st hf) (sameK_st hg)
theorem st_same (w : World) {f g : F} (hf : Wf f) (hg : Wf g) (e : stA f = stA g) : (Op.equalIn 10000 33 (.agg (stA f)) (.agg (stA g))).run Try.prog w = .ok true w := by
  obtain ⟨r, hr, hi⟩ := st_eql w hf hg
  rw [hi.2 e] at hr
  exact hr
theorem first_step : stA (stepF (newF 1) (fun _ => 0)) = stA (put (put (newF 1) 0 1) 1 (rollV 1)) := by kernel_rfl
theorem hz66 : Try.zeroCells33.size = 66 := by rw [← stA_zero]; exact stA_size _
/-- 's := ..' of a state: a block laid and stored whole. -/
theorem alloc_store (w : World) {C : Array Value} {f : F} (L : Let C f) : ∃ W3, (storeCells ⟨w.heap.size, 0, none⟩ C.toList).run Try.prog (w.alloc (.cells Try.zeroCells33 33)) = .ok () W3 ∧ SB W3 w.heap.size 33 f ∧ Below w.heap.size w W3 ∧ w.heap.size + 1 = W3.heap.size := by
  have hX : Blk (w.alloc (.cells Try.zeroCells33 33)) w.heap.size 33 Try.zeroCells33 := Blk.new _ _ _
  have := run_storeCells_from (P := Try.prog) w.heap.size 33 C.toList 0 _ _ hX (by rw [hz66]; simp [L.size]) (fun v hv => (Array.all_eq_true_iff_forall_mem.1 L.one) v (by simpa using hv))
  refine ⟨_, this, ?_, ?_, by simp⟩
  · have e : (Try.zeroCells33.toList.take 0 ++ C.toList).toArray = C := by simp
    rw [e]
    exact L.sb (hX.setRow C)
  · exact ((Below.refl _ w).alloc (Nat.le_refl _) _).trans ((touch_setRow _ w.heap.size _).below (by simp) (fun k hk => by omega))

set_option maxRecDepth 100000 in
set_option maxHeartbeats 4000000 in
theorem awake_any (w : World) : Calls Try.prog 15 #[] w fun e w' => e = .returned (.bool true) ∧ Below w.heap.size w w' := by
  have pN := Lib.hid (new_any w 1 (by decide) (by decide))
  obtain ⟨C, LC⟩ := let_of (newF 1)
  have hI := Inv.new 1 (by decide) (by decide)
  have pS := Lib.hid (fun W => step_any W (newF 1) 0 0 (fun _ => 0) (fun _ _ => by decide) hI (by decide) (by decide) (by decide))
  obtain ⟨D, LD⟩ := let_of (stepF (newF 1) (fun _ => 0))
  unfold stV at pN pS
  unfold inV at pS
  rw [← LC.eq] at pN pS
  rw [← LD.eq] at pS
  have pR := Lib.hid (fun W => roll_any W 1 (by decide) (by decide))
  have hcs := LC.size
  have hds := LD.size
  have hcr := LC.eq
  have e0 : newF 1 0 = 0 := rfl
  have e1 : newF 1 1 = 1 := rfl
  have HA := Lib.hid (fun W => alloc_store W LC)
  have HB := Lib.hid (fun W => alloc_store W LD)
  have hif := Lib.hid LC.info
  have hifD := Lib.hid LD.info
  have wfD : Wf (stepF (newF 1) (fun _ => 0)) := (hI.step _).wf (by decide) (by decide) (by decide)
  have wfE : Wf (put (put (newF 1) 0 1) 1 (rollV 1)) := by
    have w0 := hI.wf (by decide) (by decide) (by decide)
    refine ⟨fun j hj => ?_, by decide⟩
    unfold put
    split
    · decide
    · split
      · decide
      · exact w0.i64 j hj
  obtain ⟨E, LE⟩ := let_of (put (put (newF 1) 0 1) 1 (rollV 1))
  have hq : ∀ W, (Op.equalIn 10000 33 (.agg D) (.agg E)).run Try.prog W = .ok true W := fun W => by
    rw [LD.eq, LE.eq]; exact st_same W wfD wfE first_step
  have hg := guard33
  have LEE := Lib.hid LE
  clear hcr wfD wfE hI LE
  have LDD := Lib.hid LD
  have LCC := Lib.hid LC
  clear LC LD e0 e1
  go_enter Try.func15, Try.ntmps15
  go_wp2_with fail
  refine pN.out.mono ?_
  rintro e w1 ⟨rfl, hb1⟩
  obtain ⟨W3, hrun, hS3, hB3, hz3⟩ := HA.out w1
  have hz66' := hz66
  go_upto_region 2 with fail
  clear hrun hz66'
  have hzz := hb1.size
  have hBB := hb1.trans (hB3.mono hb1.size)
  have hS3' := LCC.out.blk hS3
  have hif2 := hif.out
  go_wp2_with (refine wpList_load_blk (by rfl) 33 _ (by rfl) w1.heap.size (by rfl) _ C _ hS3' Try.underlying33 (by rfl) hif2 ?_)
  refine (pS.out _).mono ?_
  rintro e w4 ⟨rfl, hb4⟩
  obtain ⟨W5, hrun, hS5, hB5, hz5⟩ := HB.out w4
  have hz66' := hz66
  go_upto_region 3 with fail
  clear hrun hz66'
  have hz4 := hb4.size
  have hS4 := (hS3.below hb4 hS3.lt).below hB5 (by omega)
  have hBB5 := (hBB.trans (hb4.mono hBB.size)).trans (hB5.mono (by omega))
  have c0 := hS4.int (j := 0) (by omega) (by omega) (by omega)
  have c1 := hS4.seed
  have f0 := hS4.fr 0
  have f1 := hS4.fr 1
  have R := (hS4.setInt (j := 0) (by omega) (by omega) (by omega) 1).set_ (j := 1) (by omega) (rollV 1)
  rw [cv_seed] at R
  have T : Touch (fun k => k = w1.heap.size) W5 ((W5.setCell ⟨w1.heap.size, 0, none⟩ (.int .i64 1)).setCell ⟨w1.heap.size, 1, none⟩ (.int .u32 (rollV 1))) := ((Touch.refl (fun k => k = w1.heap.size) _).setCell (.inl rfl) _).setCell (.inl rfl) _
  have hS6 := hS5.touch T (by omega)
  have hBB6 := hBB5.trans (T.below hBB5.size (fun k hk => by omega))
  clear hS3 hS3' hif2 hb1 hb4 hB3 hB5
  go_wp2_with fail
  refine (pR.out _).mono ?_
  rintro e w' ⟨rfl, rfl⟩
  go_upto_region 4 with fail
  clear c0 c1 f0 f1 T
  generalize (W5.setCell ⟨w1.heap.size, 0, none⟩ (.int .i64 1)).setCell ⟨w1.heap.size, 1, none⟩ (.int .u32 (rollV 1)) = W6 at *
  have hX := LDD.out.blk hS6
  have hY := LEE.out.blk R
  have hifE := LEE.out.info
  have hifD2 := hifD.out
  go_wp2_with (first | (refine wpList_load_blk (by rfl) 33 _ (by rfl) w4.heap.size (by rfl) _ D _ hX Try.underlying33 (by rfl) hifD2 ?_) | (refine wpList_load_blk (by rfl) 33 _ (by rfl) w1.heap.size (by rfl) _ E _ hY Try.underlying33 (by rfl) hifE ?_))
  go_ret
  exact ⟨rfl, hBB6⟩
end Go.Proofs.Ytblnfkhaicjeaaa.Gm
