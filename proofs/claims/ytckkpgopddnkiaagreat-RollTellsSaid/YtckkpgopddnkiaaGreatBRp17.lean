/-
  Texts joined: RdF, RdG, RdH. No condition.
-/
import Derived.Test.YtckkpgopddnkiaaGreatBRp16
import Derived.Deep.RegionHeld3
import Derived.Deep.Cut
import Derived.Deep.CutBlock
namespace Go.Proofs.YtckkpgopddnkiaaGreat.Rl
open Go.RowKit Go.Sort Go.Shelf Go.Proofs.YtckkpgopddnkiaaGreat.Gm Go.Proofs.YtckkpgopddnkiaaGreat.RingE Go.Proofs.YtckkpgopddnkiaaGreat.Inputq
set_option linter.all false

theorem runE12 (w : World) (g : Nat) (h : (cellsAt w g).size = 12) : (Instr.loadAt 35 (.pointer (some ⟨g, 0, none⟩))).run Tryz.prog w = .ok (.agg (cellsAt w g)) w := by
  obtain ⟨t, hg⟩ := cellsAt_inv (w := w) (g := g) (by omega)
  simp only [Instr.loadAt, Instr.sureAddr, Sem.run_bind, Sem.run_pure, Result.andThen_ok, run_loadVar_row w g t 35 (cellsAt w g) (0, 0) _ hg Tryz.underlying35 rfl (by rw [h]; exact infoE)]
theorem exec_ldE (ev : Operand → Value) (dst : Option Tmp) (x : Operand) (ty : TypeId) (pos : String) (after : Array Edge) (guard : Option (Nat × Bool)) (w : World) :
    (execOp ev { dst := dst, op := Op.load 35 x, type := ty, pos := pos, after := after, guard := guard }).run Tryz.prog w = loadR Tryz.prog 35 (ev x) w := exec_load ..
theorem loadE_at (w : World) (g : Nat) (h : (cellsAt w g).size = 12) : loadR Tryz.prog 35 (.pointer (some ⟨g, 0, none⟩)) w = .ok (.value (.agg (cellsAt w g))) w := by
  unfold loadR
  rw [runE12 w g h]
  rfl
theorem On.storeK {w : World} {e : TypeId} {size n : Nat} {xs : List Value} {g cap : Nat} (h : On w e size (.slice (some ⟨g, 0, none⟩) n cap) n xs) (k : Nat) (u : Value) : On (w.setCell ⟨g, k, none⟩ u) e size (.slice (some ⟨g, 0, none⟩) n cap) n (xs.set k u) := by
  have hl := h.1
  rcases h.2 with ⟨hv, _⟩ | ⟨g', cap', cur, hv, hg, hnc, hcm, hcs, htake⟩
  · cases hv
  · cases hv
    refine ⟨by rw [List.length_set]; exact hl, .inr ⟨g, cap, cur.setIfInBounds k u, rfl, ?_, hnc, hcm, by simpa using hcs, ?_⟩⟩
    · exact Blk.set_ (t := e) hg k u
    · rw [← htake, Array.toList_setIfInBounds, List.take_set]
theorem lsC_set : ∀ (us : List (Nat × Nat)) (f : Nat) (p : Nat × Nat), f < us.length → ((lsC us).set (f * 2) (.int .u16 (p.1 : Int))).set (f * 2 + 1) (.int .u16 (p.2 : Int)) = lsC (us.set f p)
  | [], _, _, h => by simp at h
  | x :: us, 0, p, _ => by simp [lsC, flat, inC]
  | x :: us, f + 1, p, h => by
    have ih := lsC_set us f p (by simpa using h)
    have e : ∀ l, lsC (x :: l) = .int .u16 (x.1 : Int) :: .int .u16 (x.2 : Int) :: lsC l := fun l => by simp [lsC, flat, inC]
    rw [List.set_cons_succ, e, e, ← ih, show (f + 1) * 2 = f * 2 + 2 by omega]
    rfl
theorem reH_us {x : H} {a k : Nat} (h : a + k < x.us.length) : (reH (rH x) a (k + 1)).us = (reH (rH x) a k).us.set (a + k) (thx x (a + k)) := by
  have hl := reH_len (rH x) a k (show a + k ≤ (rH x).us.length by show a + k ≤ x.us.length; omega)
  have ek := (reH_same (rH x) a k).1
  show setAt (reH (rH x) a k).us (a + k) (thx (reH (rH x) a k) (a + k)) = _
  unfold setAt
  rw [if_neg (by rw [hl]; show ¬ a + k = x.us.length; omega)]
  unfold thx
  rw [th_ks (x := reH (rH x) a k) (y := x) (by rw [ek]; rfl), th_ks (x := reH (rH x) a k) (y := x) (by rw [ek]; rfl)]
/-- The used pairs, copied. -/
theorem copyU (W : World) (a : Option Addr) (l c : Nat) (us : List (Nat × Nat)) (hll : us.length = l) (hon : On W 32 2 (.slice a l c) l (lsC us)) (hl : l ≤ 1000) (h0 : 0 < l) :
    ∃ gu c1 w1, (appI #[33, 33] 33 #[.slice (some ⟨W.heap.size, 0, none⟩) 0 0, .slice a l c]).run Tryz.prog (W.alloc (.cells #[] 32)) = .ok (.slice (some ⟨gu, 0, none⟩) l c1) w1 ∧
      On w1 32 2 (.slice (some ⟨gu, 0, none⟩) l c1) l (lsC us) ∧ Below W.heap.size W w1 ∧ W.heap.size ≤ gu := by
  obtain ⟨i0, hi, hz0, hz1, hz2⟩ := info_parts infoI2
  subst hll
  have hb : Below W.heap.size W (W.alloc (.cells #[] 32)) := (Below.refl _ W).alloc (Nat.le_refl _) _
  obtain ⟨v1, w1, hrun, hon1, hg1, hv1⟩ := run_append_on (P := Tryz.prog) (W.alloc (.cells #[] 32)) 33 33 32 i0 _ 2 4 Tryz.underlying33 hi hz0 hz1 hz2 rfl (by omega)
    (.slice (some ⟨W.heap.size, 0, none⟩) 0 0) 0 [] (On.empty W _ _) a us.length c (lsC us) (lsC_len us) ((hon.alloc _).src) (lsC_one us) (by simp only [maxLen]; omega) (by omega)
  rw [Nat.zero_add, List.nil_append] at hon1
  have b1 := below_grown hb hg1 (fun g e => by cases e; exact Nat.le_refl _) hb.size
  rcases hon1.form with ⟨_, hn, _⟩ | ⟨g, cap, rfl, hnc, hcm, how, hgl, hcell, hfr⟩
  · omega
  · refine ⟨g, cap, w1, hrun, hon1, b1, ?_⟩
    rcases hv1 with e | e
    · rw [e] at how; simp [Value.ownBlock] at how; omega
    · rw [e] at how; cases how; exact hb.size

/-- What lies there while the frames are thought again. -/
structure FixL (w W : World) (E Z : Array Value) (y : DV) (x : H) (gu cu : Nat) (us : List (Nat × Nat)) : Prop where
  box : Blk W w.heap.size 35 E
  res : Blk W (w.heap.size + 1) 35 Z
  on : On W 32 2 (.slice (some ⟨gu, 0, none⟩) us.length cu) us.length (lsC us)
  doc : Doc W y x
  lo : Below w.heap.size w W
  hg : w.heap.size + 2 ≤ gu
  old : ∀ k, y.own k → k < w.heap.size
section
variable {w wr W : World} {E Z : Array Value} {c : Cfg} {y : DV} {x : H} {gu cu : Nat} {us : List (Nat × Nat)}
theorem FixL.below (h : FixL w wr E Z y x gu cu us) (hb : Below wr.heap.size wr W) : FixL w W E Z y x gu cu us :=
  ⟨h.box.below hb h.box.lt, h.res.below hb h.res.lt, h.on.below hb h.on.lt, h.doc.below hb, h.lo.trans (hb.mono h.lo.size), h.hg, h.old⟩
theorem FixL.store (h : FixL w W E Z y x gu cu us) {f : Nat} (hf : f < us.length) (p : Nat × Nat) : FixL w ((W.setCell ⟨gu, f * 2, none⟩ (.int .u16 (p.1 : Int))).setCell ⟨gu, f * 2 + 1, none⟩ (.int .u16 (p.2 : Int))) E Z y x gu cu (us.set f p) := by
  have hg := h.hg
  have ht : Touch (fun k => k = gu) W ((W.setCell ⟨gu, f * 2, none⟩ (.int .u16 (p.1 : Int))).setCell ⟨gu, f * 2 + 1, none⟩ (.int .u16 (p.2 : Int))) :=
    Touch.setCell (S := fun k => k = gu) (p := ⟨gu, f * 2 + 1, none⟩) (Touch.setCell (S := fun k => k = gu) (p := ⟨gu, f * 2, none⟩) (Touch.refl _ _) (.inl rfl) _) (.inl rfl) _
  refine ⟨h.box.touch ht (by omega), h.res.touch ht (by omega), ?_, h.doc.touch ht (fun k hk e => by have := h.old k hk; omega), h.lo.trans (ht.below h.lo.size (fun k hk => by omega)), hg, h.old⟩
  rw [← lsC_set us f p hf, List.length_set]
  exact On.storeK (On.storeK h.on _ _) _ _
theorem FixL.cells (h : FixL w W E Z y x gu cu us) {f : Nat} (hf : f < us.length) : (∃ u, W.cell? ⟨gu, f * 2, none⟩ = some u) ∧ (∃ u, W.cell? ⟨gu, f * 2 + 1, none⟩ = some u) ∧ ∀ j, W.frozen? ⟨gu, j, none⟩ = false := by
  rcases h.on.form with ⟨hv, _⟩ | ⟨g, cap, hv, hnc, hcm, how, hgl, hcell, hfr⟩
  · cases hv
  · cases hv
    have hl := lsC_len us
    exact ⟨⟨_, hcell _ _ (List.getElem?_eq_getElem (by omega))⟩, ⟨_, hcell _ _ (List.getElem?_eq_getElem (by omega))⟩, hfr⟩
end

section
attribute [local go_sem ↓] append_I exec_ldE
attribute [local go_sem] loadE_at cellsAt_drew
set_option maxRecDepth 100000 in
set_option maxHeartbeats 8000000 in
theorem rfix_none (w : World) (c : Cfg) (x : H) (y : DV) (h : Doc w y x) (j : J c x) (hw : Rl.wrH x < 0) :
    Calls Tryz.prog 45 #[.agg (dE c y x)] w fun e w' => ∃ y', e = .returned (.tuple #[.agg (dE c y' (fixH x)), .int .i64 (fixN x : Int)]) ∧ Doc w' y' (fixH x) ∧ DNew w w' y y' := by
  obtain ⟨Z, hZ⟩ : ∃ Z, zE = Z := ⟨_, rfl⟩
  have hZs : Z.size = 12 := by rw [← hZ]; exact zE_size
  obtain ⟨W1, hW1⟩ : ∃ W1, W1 = (w.alloc (.cells (dE c y x) 35)).alloc (.cells Z 35) := ⟨_, rfl⟩
  have hX : Blk W1 w.heap.size 35 (dE c y x) := by rw [hW1]; exact (Blk.new w _ _).alloc _
  have hR : Blk W1 (w.heap.size + 1) 35 Z := by
    rw [hW1]
    have := Blk.new (w.alloc (.cells (dE c y x) 35)) 35 Z
    simpa using this
  have hB : Below w.heap.size w W1 := by rw [hW1]; exact ((Below.refl _ w).alloc (Nat.le_refl _) _).alloc (by simp) _
  obtain ⟨e1, e2, e3⟩ := fix_none j hw
  have hes := dE_size c y x
  have hei := dE_info c y x
  have heo := dE_one c y x
  have hzs1 : Z.size = (dE c y x).size := by rw [hes, hZs]
  have hwr1 : Rl.wrH x = -1 := by have := j.wrH; omega
  have HEQ := Lib.hid (show dE c y (fixH x) = dE c y x from by
    rw [e2]
    unfold dE
    rw [hwr1]
    rfl)
  have HD := Lib.hid (show Doc W1 y (fixH x) from by rw [e2]; exact ⟨(h.below hB).k0, (h.below hB).k1, (h.below hB).us⟩)
  have HLT := Lib.hid h.lt
  have HB := Lib.hid hB
  have HX := Lib.hid hX
  have HR := Lib.hid hR
  have d8 := (dE_cells hX).2.2.2.2.2.2.2.2.1
  have c0 : cellsAt W1 w.heap.size = dE c y x := cellsAt_blk hX
  rw [e1]
  clear hX hR hB h j e1 e2 e3 hwr1
  generalize Rl.wrH x = wr at *
  obtain ⟨E, hE⟩ : ∃ E, dE c y x = E := ⟨_, rfl⟩
  rw [hE] at hW1 hes hei heo hzs1 HX HEQ c0 ⊢
  clear hE
  have HBL := HX.out
  have HRL := HR.out
  have HHW := Lib.hid hw
  go_enter Tryz.func45, Tryz.ntmps45
  go_upto_region 1 with fail
  rw [← hZ] at hW1
  unfold zE at hW1
  rw [← hW1]
  clear hW1
  go_upto_region 2 with fail
  clear hw d8
  go_wp2_with (first | (refine wpList_load_blk (by rfl) 35 _ (by rfl) w.heap.size (by rfl) _ E _ HBL Tryz.underlying35 (by rfl) hei ?_) | (refine wpList_store_blk (by rfl) 35 _ _ (by rfl) (w.heap.size + 1) E (by rfl) (by rfl) _ Z HRL hei hzs1 heo ?_; intro W6 hd6 ht6) | fail)
  refine bodyPost_ret (v := .tuple #[.agg E, .int .i64 0]) (pair_resultsD Tryz.results45 _ _ (w.heap.size + 1) _ E _ hd6 hei (by rfl) (by rfl)) rfl ?_
  exact ⟨y, by rw [HEQ.out]; rfl, HD.out.touch ht6 (fun k hk e => by have := HLT.out k hk; omega), (DNew.refl_ y HB.out).touchR (by omega) ht6⟩

def usA (x : H) (f : Nat) : List (Nat × Nat) := (reH (rH x) (fromH x) (f - fromH x)).us
theorem usA_len {x : H} {f : Nat} (h0 : fromH x ≤ f) (h1 : f ≤ x.us.length) : (usA x f).length = x.us.length := reH_len (rH x) _ _ (show fromH x + (f - fromH x) ≤ x.us.length by omega)
theorem usA_succ {x : H} {f : Nat} (h0 : fromH x ≤ f) (h1 : f < x.us.length) : usA x (f + 1) = (usA x f).set f (thx x f) := by
  have := reH_us (x := x) (a := fromH x) (k := f - fromH x) (by omega)
  unfold usA
  rw [show f + 1 - fromH x = f - fromH x + 1 by omega, this, show fromH x + (f - fromH x) = f by omega]
theorem usA_0 (x : H) : usA x (fromH x) = x.us := by
  unfold usA
  rw [Nat.sub_self]
  rfl
theorem usA_end {c : Cfg} {x : H} (j : J c x) (hw : 0 ≤ Rl.wrH x) : usA x x.us.length = (fixH x).us := by
  have := (from_wrH j hw).2.2.2
  rw [fix_some j hw]
  unfold usA
  rw [show x.us.length - fromH x = fixN x by omega]
theorem dE_fix {c : Cfg} {x : H} (j : J c x) (hw : 0 ≤ Rl.wrH x) (y : DV) (gu cu : Nat) : dE c { y with au := some ⟨gu, 0, none⟩, cu := cu } (fixH x) =
    (((((dE c y x).setIfInBounds 7 (.slice (some ⟨gu, 0, none⟩) x.us.length cu)).setIfInBounds 8 (.int .i64 (-1))).setIfInBounds 9 (.int .i64 ((x.ro : Int) + 1))).setIfInBounds 10 (.int .i64 ((x.re : Int) + fixN x))).setIfInBounds 11 (.int .i64 ((max x.wo (fixN x) : Nat) : Int)) := by
  have e1 := (fixH_same x).1
  have e2 := (fixH_same x).2.1
  have e3 := fixH_len j
  have e4 := fix_some j hw
  have e5 : (fixH x).ro = x.ro + 1 := by rw [e4]
  have e6 : (fixH x).re = x.re + fixN x := by rw [e4]
  have e7 : (fixH x).wo = max x.wo (fixN x) := by rw [e4]
  have e8 : Rl.wrH (fixH x) = -1 := by unfold Rl.wrH; rw [e2]; rfl
  have e9 : ∀ i, lstH (fixH x) i = lstH x i := fun i => by unfold lstH; rw [e1]
  unfold dE
  rw [e1, e3, e5, e6, e7, e8, e9, e9]
  simp only [Int.natCast_add, Int.natCast_one]
  rfl
set_option maxRecDepth 100000 in
set_option maxHeartbeats 8000000 in
theorem rfix_some (w : World) (c : Cfg) (x : H) (y : DV) (h : Doc w y x) (j : J c x) (hw : 0 ≤ Rl.wrH x) (hro : x.ro ≤ 100000) (hre : x.re ≤ 1000000) :
    Calls Tryz.prog 45 #[.agg (dE c y x)] w fun e w' => ∃ y', e = .returned (.tuple #[.agg (dE c y' (fixH x)), .int .i64 (fixN x : Int)]) ∧ Doc w' y' (fixH x) ∧ DNew w w' y y' := by
  obtain ⟨Z, hZ⟩ : ∃ Z, zE = Z := ⟨_, rfl⟩
  have hZs : Z.size = 12 := by rw [← hZ]; exact zE_size
  obtain ⟨W1, hW1⟩ : ∃ W1, W1 = (w.alloc (.cells (dE c y x) 35)).alloc (.cells Z 35) := ⟨_, rfl⟩
  have hX : Blk W1 w.heap.size 35 (dE c y x) := by rw [hW1]; exact (Blk.new w _ _).alloc _
  have hR : Blk W1 (w.heap.size + 1) 35 Z := by
    rw [hW1]
    have := Blk.new (w.alloc (.cells (dE c y x) 35)) 35 Z
    simpa using this
  have hB : Below w.heap.size w W1 := by rw [hW1]; exact ((Below.refl _ w).alloc (Nat.le_refl _) _).alloc (by simp) _
  have hz1 : W1.heap.size = w.heap.size + 2 := by rw [hW1]; simp
  obtain ⟨f1, f2, f3, f4⟩ := from_wrH j hw
  have hun := j.un
  obtain ⟨l, hll⟩ : ∃ l, x.us.length = l := ⟨_, rfl⟩
  have hD1 := h.below hB
  obtain ⟨gu, cu, w1, hrun, hon, b1, hgu⟩ := copyU W1 y.au l y.cu x.us hll (by rw [← hll]; exact hD1.us) (by omega) (by omega)
  have hF0 : FixL w w1 (dE c y x) Z y x gu cu (usA x (fromH x)) := by
    rw [usA_0]
    exact ⟨hX.below b1 hX.lt, hR.below b1 hR.lt, by rw [hll]; exact hon, hD1.below b1, hB.trans (b1.mono hB.size), by omega, h.lt⟩
  have HF0 := Lib.hid hF0
  have HUL := Lib.hid (show ∀ f : Nat, fromH x ≤ f → f ≤ l → (usA x f).length = l from fun f h0 h1 => by rw [← hll] at h1 ⊢; exact usA_len h0 h1)
  have HUS := Lib.hid (show ∀ f : Nat, fromH x ≤ f → f < l → usA x (f + 1) = (usA x f).set f (thx x f) from fun f h0 h1 => usA_succ h0 (by omega))
  have pT := Lib.hid (show ∀ (W : World) (i f : Nat), i < 2 → f < l → Doc W y x → Calls Tryz.prog 73 #[.agg (dE c y x), .int .i64 (i : Int), .int .i64 (f : Int)] W fun e w' => e = .returned (.int .u16 (th x i f : Int)) ∧ Below W.heap.size W w' from fun W i f hi hf hd => thought_any W c x y hd i f hi (by omega))
  have hes := dE_size c y x
  have hei := dE_info c y x
  have heo := dE_one c y x
  have d7 := (dE_cells hX).2.2.2.2.2.2.2.1
  rw [hll] at d7
  have d7' : (W1.alloc (.cells #[] 32)).cell? ⟨w.heap.size, 7, none⟩ = some (.slice y.au l y.cu) := by rw [← hll]; exact (dE_cells (hX.alloc _)).2.2.2.2.2.2.2.1
  have q8 := (dE_cells hX).2.2.2.2.2.2.2.2.1
  rw [← f1] at q8
  have HFC := Lib.hid (show ∀ W us, FixL w W (dE c y x) Z y x gu cu us → W.cell? ⟨w.heap.size, 8, none⟩ = some (.int .i64 (fromH x : Int)) ∧ W.cell? ⟨w.heap.size, 9, none⟩ = some (.int .i64 (x.ro : Int)) ∧ W.cell? ⟨w.heap.size, 10, none⟩ = some (.int .i64 (x.re : Int)) ∧ W.cell? ⟨w.heap.size, 11, none⟩ = some (.int .i64 (x.wo : Int)) ∧ W.cell? ⟨w.heap.size, 7, none⟩ = some (.slice y.au l y.cu) from fun W us hF => by
    obtain ⟨-, -, -, -, -, -, -, d7, d8, d9, d10, d11⟩ := dE_cells hF.box
    rw [← f1] at d8
    rw [hll] at d7
    exact ⟨d8, d9, d10, d11, d7⟩)
  have HEND := Lib.hid (usA_end j hw)
  rw [hll] at HEND
  have HDE := Lib.hid (dE_fix j hw y gu cu)
  rw [hll] at HDE
  have f1' : (fromH x : Int) ≤ l := by omega
  have fe : (fixN x : Int) = (l : Int) - fromH x := by omega
  obtain ⟨a, ha⟩ : ∃ a, fromH x = a := ⟨_, rfl⟩
  obtain ⟨m, hm⟩ : ∃ m, fixN x = m := ⟨_, rfl⟩
  have hlw : a + m = l := by omega
  have hl110 : l ≤ 110 := by omega
  have HFIN := Lib.hid (show ∀ W E, FixL w W (dE c y x) Z y x gu cu (usA x l) → ∀ W', Touch (fun k => k = w.heap.size ∨ k = w.heap.size + 1) W W' → dE c { y with au := some ⟨gu, 0, none⟩, cu := cu } (fixH x) = E → ∃ y', Ending.returned (.tuple #[.agg E, .int .i64 (m : Int)]) = .returned (.tuple #[.agg (dE c y' (fixH x)), .int .i64 (m : Int)]) ∧ Doc W' y' (fixH x) ∧ DNew w W' y y' from fun W E hF W' ht hE => by
    subst hE
    have hd := hF.doc.touch ht (fun k hk e => by have := hF.old k hk; omega)
    have ho := hF.on.touch ht (fun k hk e => by
      have : gu = k := by simpa [Value.ownBlock] using hk
      have := hF.hg
      omega)
    rw [HEND.out] at ho
    have ek := (fixH_same x).1
    refine ⟨{ y with au := some ⟨gu, 0, none⟩, cu := cu }, rfl, ⟨by rw [ek]; exact hd.k0, by rw [ek]; exact hd.k1, ho⟩, hF.lo.trans (ht.below hF.lo.size (fun k hk => by omega)), fun k hk => ?_⟩
    rcases hk with hk | hk | hk
    · exact .inl (.inl hk)
    · exact .inl (.inr (.inl hk))
    · right
      have : gu = k := by simpa [Value.ownBlock] using hk
      have := hF.hg
      omega)
  rw [ha] at HF0 HUL HUS HFC q8
  rw [hm] at HDE ⊢
  clear hX hR hB hD1 hon b1 hF0 h j f1 f2 f3 f4 hll fe f1' hw HEND ha hm hgu hz1
  obtain ⟨E, hE⟩ : ∃ E, dE c y x = E := ⟨_, rfl⟩
  have HEE := Lib.hid hE
  rw [hE] at hW1 hes hei heo HF0 HFIN HFC pT HDE ⊢
  clear hE
  have ha0 : ¬ (a : Int) < 0 := by omega
  go_enter Tryz.func45, Tryz.ntmps45
  go_upto_region 1 with fail
  rw [← hZ] at hW1
  unfold zE at hW1
  rw [← hW1]
  clear hW1
  go_upto_region 4 with fail
  obtain ⟨q8, q9, q10, q11, q7⟩ := HFC.out _ _ HF0.out
  clear hrun d7 d7'
  go_wp2_with fail
  go_loopw [5] (fun iv wr => ∃ f : Nat, a ≤ f ∧ f ≤ l ∧ iv = .int .i64 (f : Int) ∧ FixL w wr E Z y x gu cu (usA x f)) (fun iv _ => l - (intOf iv).toNat)
  case atStart => exact ⟨a, Nat.le_refl _, by omega, rfl, HF0.out⟩
  case round =>
    clear HF0 q7 q8 q9 q10 q11 ha0
    obtain ⟨f, haf, hfl, rfl, hF⟩ := hrel
    by_cases hlt : f < l
    · have HF := Lib.hid hF
      have i0 : (0 : Int) ≤ (f : Int) := by omega
      have i1 : (f : Int) < (l : Int) := by omega
      have hul := HUL.out f haf hfl
      have pT0 := Lib.hid (show ∀ W, Doc W y x → Calls Tryz.prog 73 #[.agg E, .int .i64 0, .int .i64 (f : Int)] W fun e w' => e = .returned (.int .u16 (th x 0 f : Int)) ∧ Below W.heap.size W w' from fun W hd => pT.out W 0 f (by omega) hlt hd)
      have pT1 := Lib.hid (show ∀ W, Doc W y x → Calls Tryz.prog 73 #[.agg E, .int .i64 1, .int .i64 (f : Int)] W fun e w' => e = .returned (.int .u16 (th x 1 f : Int)) ∧ Below W.heap.size W w' from fun W hd => pT.out W 1 f (by omega) hlt hd)
      have HST := Lib.hid (show ∀ W, Below wr.heap.size wr W → FixL w ((W.setCell ⟨gu, f * 2, none⟩ (.int .u16 (th x 0 f : Int))).setCell ⟨gu, f * 2 + 1, none⟩ (.int .u16 (th x 1 f : Int))) E Z y x gu cu (usA x (f + 1)) from fun W hb => by
        rw [HUS.out f haf hlt]
        exact (hF.below hb).store (by rw [hul]; exact hlt) (thx x f))
      have HCS := Lib.hid (show ∀ W, Below wr.heap.size wr W → (∃ u, W.cell? ⟨gu, f * 2, none⟩ = some u) ∧ (∃ u, W.cell? ⟨gu, f * 2 + 1, none⟩ = some u) ∧ ∀ j, W.frozen? ⟨gu, j, none⟩ = false from fun W hb => (hF.below hb).cells (by rw [hul]; exact hlt))
      have c0 : cellsAt wr.drew w.heap.size = E := cellsAt_blk hF.box
      have hbd : Below wr.heap.size wr wr.drew := (Below.refl _ wr).drew
      clear hF hul
      generalize th x 0 f = t0 at *
      generalize th x 1 f = t1 at *
      go_upto_region 7 with fail
      go_region_held3 (fun W => cellsAt W w.heap.size = E) (first | exact c0 | exact cA | exact cB | exact cZ | fail "no keep")
        (first
          | (go_at_call 73; (with_reducible refine (pT0.out _ (HF.out.below bA).doc).mono ?_); rintro e wB ⟨rfl, bB'⟩; have bB := bA.trans (bB'.mono bA.size); have cB : cellsAt wB w.heap.size = E := cellsAt_blk (HF.out.below bB).box; obtain ⟨⟨u0, s0⟩, ⟨u1, s1⟩, sf⟩ := HCS.out wB bB; have sf0 := sf (f * 2); have sf1 := sf (f * 2 + 1); have hZ5 := HST.out wB bB; have cZ : cellsAt ((wB.setCell ⟨gu, f * 2, none⟩ (.int .u16 (t0 : Int))).setCell ⟨gu, f * 2 + 1, none⟩ (.int .u16 (t1 : Int))) w.heap.size = E := cellsAt_blk hZ5.box)
          | (go_at_call 73; (with_reducible refine (pT1.out _ (HF.out.below bA).doc).mono ?_); rintro e wB ⟨rfl, bB'⟩; have bB := bA.trans (bB'.mono bA.size); have cB : cellsAt wB w.heap.size = E := cellsAt_blk (HF.out.below bB).box; obtain ⟨⟨u0, s0⟩, ⟨u1, s1⟩, sf⟩ := HCS.out wB bB; have sf0 := sf (f * 2); have sf1 := sf (f * 2 + 1); have hZ5 := HST.out wB bB; have cZ : cellsAt ((wB.setCell ⟨gu, f * 2, none⟩ (.int .u16 (t0 : Int))).setCell ⟨gu, f * 2 + 1, none⟩ (.int .u16 (t1 : Int))) w.heap.size = E := cellsAt_blk hZ5.box)
          | (go_at_call 73; (with_reducible refine (pT0.out _ (HF.out.below hbd).doc).mono ?_); rintro e wA ⟨rfl, bA'⟩; have bA := hbd.trans (bA'.mono hbd.size); have cA : cellsAt wA w.heap.size = E := cellsAt_blk (HF.out.below bA).box)
          | (go_at_call 73; (with_reducible refine (pT1.out _ (HF.out.below hbd).doc).mono ?_); rintro e wA ⟨rfl, bA'⟩; have bA := hbd.trans (bA'.mono hbd.size); have cA : cellsAt wA w.heap.size = E := cellsAt_blk (HF.out.below bA).box)
          | fail "no arm")
      all_goals
        have HZ5 := Lib.hid hZ5
        clear hZ5
        go_wp2_with fail
        go_roundw
        case rel => exact ⟨f + 1, by omega, by omega, by go_num, HZ5.out⟩
        case measure => simp [intOf]; omega
    · have e5 : IntKind.i64.wrap ((l : Int) - a) = (m : Int) := (congrArg IntKind.i64.wrap (show (l : Int) - a = (m : Int) by omega)).trans (IntWalk.i64_in _ (by omega))
      have e6 : IntKind.i64.wrap ((x.ro : Int) + 1) = (x.ro : Int) + 1 := IntWalk.i64_in _ (by omega)
      have e7 : IntKind.i64.wrap ((x.re : Int) + m) = (x.re : Int) + m := IntWalk.i64_in _ (by omega)
      have hFl : FixL w wr E Z y x gu cu (usA x l) := by rw [← show f = l by omega]; exact hF
      rw [show f = l by omega]
      clear hF hlt haf hfl hlw pT HUS HUL
      obtain ⟨q8, q9, q10, q11, q7⟩ := HFC.out _ _ hFl
      have f7 := hFl.box.frozen 7
      have f8 := hFl.box.frozen 8
      have f9 := hFl.box.frozen 9
      have f10 := hFl.box.frozen 10
      have f11 := hFl.box.frozen 11
      have hzs1 : Z.size = E.size := by rw [hes, hZs]
      have HBX := Lib.hid hFl.box
      have HRX := Lib.hid hFl.res
      have HF := Lib.hid hFl
      clear hFl HFC
      generalize x.ro = ro at *
      generalize x.re = re at *
      generalize x.wo = wo at *
      obtain ⟨E9, hE9⟩ : ∃ E9, dE c { y with au := some ⟨gu, 0, none⟩, cu := cu } (fixH x) = E9 := ⟨_, rfl⟩
      have he9 := dE_size c { y with au := some ⟨gu, 0, none⟩, cu := cu } (fixH x)
      have hi9 := dE_info c { y with au := some ⟨gu, 0, none⟩, cu := cu } (fixH x)
      have ho9 := dE_one c { y with au := some ⟨gu, 0, none⟩, cu := cu } (fixH x)
      rw [hE9] at he9 hi9 ho9 HDE HFIN
      have HFI2 := Lib.hid (fun W' ht => HFIN.out wr E9 HF.out W' ht rfl)
      have hzs9 : Z.size = E9.size := by rw [he9, hZs]
      clear hE9 HFIN HF
      by_cases hmx : (wo : Int) < (m : Int)
      · have ez : ((max wo m : Nat) : Int) = (m : Int) := by omega
        obtain ⟨V, hV⟩ : ∃ V, V = ((((wr.setCell ⟨w.heap.size, 7, none⟩ (.slice (some ⟨gu, 0, none⟩) l cu)).setCell ⟨w.heap.size, 8, none⟩ (.int .i64 (-1))).setCell ⟨w.heap.size, 9, none⟩ (.int .i64 ((ro : Int) + 1))).setCell ⟨w.heap.size, 10, none⟩ (.int .i64 ((re : Int) + m))).setCell ⟨w.heap.size, 11, none⟩ (.int .i64 (m : Int)) := ⟨_, rfl⟩
        have HBL : Blk V w.heap.size 35 E9 := by
          rw [HDE.out, ez, hV]
          exact Blk.set_ (Blk.set_ (Blk.set_ (Blk.set_ (Blk.set_ HBX.out 7 _) 8 _) 9 _) 10 _) 11 _
        have HTV : Touch (fun k => k = w.heap.size ∨ k = w.heap.size + 1) wr V := by
          rw [hV]
          exact ((((Touch.setCell (S := fun k => k = w.heap.size ∨ k = w.heap.size + 1) (p := ⟨w.heap.size, 7, none⟩) (Touch.refl _ _) (.inl (.inl rfl)) _).setCell (p := ⟨w.heap.size, 8, none⟩) (.inl (.inl rfl)) _).setCell (p := ⟨w.heap.size, 9, none⟩) (.inl (.inl rfl)) _).setCell (p := ⟨w.heap.size, 10, none⟩) (.inl (.inl rfl)) _).setCell (p := ⟨w.heap.size, 11, none⟩) (.inl (.inl rfl)) _
        have HRL : Blk V (w.heap.size + 1) 35 Z := by
          rw [hV]
          exact ((((HRX.out.far (by simp) _).far (by simp) _).far (by simp) _).far (by simp) _).far (by simp) _
        have HTT := Lib.hid HTV
        clear HTV ez
        go_upto_region 13 with fail
        rw [← hV]
        clear hV q7 q8 q9 q10 q11 f7 f8 f9 f10 f11
        go_wp2_with (first | (refine wpList_load_blk (by rfl) 35 _ (by rfl) w.heap.size (by rfl) _ E9 _ HBL Tryz.underlying35 (by rfl) hi9 ?_) | (refine wpList_store_blk (by rfl) 35 _ _ (by rfl) (w.heap.size + 1) E9 (by rfl) (by rfl) _ Z HRL hi9 hzs9 ho9 ?_; intro W6 hd6 ht6) | fail)
        refine bodyPost_ret (v := .tuple #[.agg E9, .int .i64 (m : Int)]) (pair_resultsD Tryz.results45 _ _ (w.heap.size + 1) _ E9 _ hd6 hi9 (by rfl) (by rfl)) rfl ?_
        exact HFI2.out W6 (HTT.out.trans ht6 (fun k hk => .inl (.inr hk)))
      · have ez : ((max wo m : Nat) : Int) = (wo : Int) := by omega
        obtain ⟨V, hV⟩ : ∃ V, V = ((((wr.setCell ⟨w.heap.size, 7, none⟩ (.slice (some ⟨gu, 0, none⟩) l cu)).setCell ⟨w.heap.size, 8, none⟩ (.int .i64 (-1))).setCell ⟨w.heap.size, 9, none⟩ (.int .i64 ((ro : Int) + 1))).setCell ⟨w.heap.size, 10, none⟩ (.int .i64 ((re : Int) + m))).setCell ⟨w.heap.size, 11, none⟩ (.int .i64 (wo : Int)) := ⟨_, rfl⟩
        have HBL : Blk V w.heap.size 35 E9 := by
          rw [HDE.out, ez, hV]
          exact Blk.set_ (Blk.set_ (Blk.set_ (Blk.set_ (Blk.set_ HBX.out 7 _) 8 _) 9 _) 10 _) 11 _
        have HTV : Touch (fun k => k = w.heap.size ∨ k = w.heap.size + 1) wr V := by
          rw [hV]
          exact ((((Touch.setCell (S := fun k => k = w.heap.size ∨ k = w.heap.size + 1) (p := ⟨w.heap.size, 7, none⟩) (Touch.refl _ _) (.inl (.inl rfl)) _).setCell (p := ⟨w.heap.size, 8, none⟩) (.inl (.inl rfl)) _).setCell (p := ⟨w.heap.size, 9, none⟩) (.inl (.inl rfl)) _).setCell (p := ⟨w.heap.size, 10, none⟩) (.inl (.inl rfl)) _).setCell (p := ⟨w.heap.size, 11, none⟩) (.inl (.inl rfl)) _
        have HRL : Blk V (w.heap.size + 1) 35 Z := by
          rw [hV]
          exact ((((HRX.out.far (by simp) _).far (by simp) _).far (by simp) _).far (by simp) _).far (by simp) _
        have HTT := Lib.hid HTV
        clear HTV ez
        go_upto_region 13 with fail
        rw [← hV]
        clear hV q7 q8 q9 q10 q11 f7 f8 f9 f10 f11
        go_wp2_with (first | (refine wpList_load_blk (by rfl) 35 _ (by rfl) w.heap.size (by rfl) _ E9 _ HBL Tryz.underlying35 (by rfl) hi9 ?_) | (refine wpList_store_blk (by rfl) 35 _ _ (by rfl) (w.heap.size + 1) E9 (by rfl) (by rfl) _ Z HRL hi9 hzs9 ho9 ?_; intro W6 hd6 ht6) | fail)
        refine bodyPost_ret (v := .tuple #[.agg E9, .int .i64 (m : Int)]) (pair_resultsD Tryz.results45 _ _ (w.heap.size + 1) _ E9 _ hd6 hi9 (by rfl) (by rfl)) rfl ?_
        exact HFI2.out W6 (HTT.out.trans ht6 (fun k hk => .inl (.inr hk)))
end
end Go.Proofs.YtckkpgopddnkiaaGreat.Rl
namespace Go.Proofs.YtckkpgopddnkiaaGreat.Rl
open Go.RowKit Go.Sort Go.Shelf Go.Proofs.YtckkpgopddnkiaaGreat.Gm Go.Proofs.YtckkpgopddnkiaaGreat.RingE Go.Proofs.YtckkpgopddnkiaaGreat.Inputq
set_option linter.all false

theorem rfix_any (w : World) (c : Cfg) (x : H) (y : DV) (h : Doc w y x) (j : J c x) (hro : x.ro ≤ 100000) (hre : x.re ≤ 1000000) :
    Calls Tryz.prog 45 #[.agg (dE c y x)] w fun e w' => ∃ y', e = .returned (.tuple #[.agg (dE c y' (fixH x)), .int .i64 (fixN x : Int)]) ∧ Doc w' y' (fixH x) ∧ DNew w w' y y' := by
  by_cases hw : Rl.wrH x < 0
  · exact rfix_none w c x y h j hw
  · exact rfix_some w c x y h j (by omega) hro hre
theorem radd_any (w : World) (c : Cfg) (x : H) (y : DV) (i v : Nat) (hi : i < 2) (h : Doc w y x) (j : J c x) :
    Calls Tryz.prog 72 #[.agg (dE c y x), .int .i64 (i : Int), .int .u16 (v : Int)] w fun e w' => ∃ y', e = .returned (.agg (dE c y' (addH x i v))) ∧ Doc w' y' (addH x i v) ∧ DNew w w' y y' := by
  obtain rfl | rfl : i = 0 ∨ i = 1 := by omega
  · exact add0_any w c x y v h j
  · exact add1_any w c x y v h j
theorem aremote_any (w : World) (c : Cfg) (x : H) (y : DV) (v : Nat) (h : Doc w y x) (j : J c x) :
    Calls Tryz.prog 46 #[.agg (dE c y x), .int .u16 (v : Int)] w fun e w' => ∃ y', e = .returned (.tuple #[.agg (dE c y' (addHR c x v)), .bool (decide (¬ addHT c x))]) ∧ Doc w' y' (addHR c x v) ∧ DNew w w' y y' := by
  have := j.lo
  obtain h0 | h1 : c.lo = 0 ∨ c.lo = 1 := by omega
  · exact aremote0_any w c x y v h j h0
  · exact aremote1_any w c x y v h j h1
theorem DNew.trans {w w1 w2 : World} {y y1 y2 : DV} (h : DNew w w1 y y1) (h2 : DNew w1 w2 y1 y2) : DNew w w2 y y2 :=
  ⟨h.1.trans (h2.1.mono h.1.size), fun k hk => (h2.2 k hk).elim (h.2 k) (fun e => .inr (Nat.le_trans h.1.size e))⟩
/-- The used pairs, copied. -/
theorem copyV (W V : World) (hV : V = (W.alloc (.cells #[] 32)).drew) (a : Option Addr) (l c : Nat) (us : List (Nat × Nat)) (hll : us.length = l) (hon : On W 32 2 (.slice a l c) l (lsC us)) (hl : l ≤ 1000) :
    ∃ a1 c1 w1, (appI #[33, 33] 33 #[.slice (some ⟨W.heap.size, 0, none⟩) 0 0, .slice a l c]).run Tryz.prog V = .ok (.slice a1 l c1) w1 ∧
      On w1 32 2 (.slice a1 l c1) l (lsC us) ∧ Below W.heap.size W w1 ∧ (∀ g, Value.ownBlock (.slice a1 l c1) = some g → W.heap.size ≤ g) := by
  obtain ⟨i0, hi, hz0, hz1, hz2⟩ := info_parts infoI2
  subst hll
  subst hV
  have hb : Below W.heap.size W (W.alloc (.cells #[] 32)).drew := ((Below.refl _ W).alloc (Nat.le_refl _) _).drew
  obtain ⟨v1, w1, hrun, hon1, hg1, hv1⟩ := run_append_on (P := Tryz.prog) (W.alloc (.cells #[] 32)).drew 33 33 32 i0 _ 2 4 Tryz.underlying33 hi hz0 hz1 hz2 rfl (by omega)
    (.slice (some ⟨W.heap.size, 0, none⟩) 0 0) 0 [] (On.empty W _ _).drew a us.length c (lsC us) (lsC_len us) ((hon.alloc _).drew.src) (lsC_one us) (by simp only [maxLen]; omega) (by omega)
  rw [Nat.zero_add, List.nil_append] at hon1
  have b1 := below_grown hb hg1 (fun g e => by cases e; exact Nat.le_refl _) hb.size
  obtain ⟨a1, c1, rfl, _, _⟩ := hon1.slice
  refine ⟨a1, c1, w1, hrun, hon1, b1, fun g hg => ?_⟩
  rcases hv1 with e | e
  · rw [e] at hg; simp [Value.ownBlock] at hg; omega
  · rw [e] at hg; cases hg; exact hb.size
/-- One pair behind a list. -/
theorem appV (V : World) (a : Option Addr) (l c : Nat) (us : List (Nat × Nat)) (p : Nat × Nat) (hll : us.length = l) (hon : On V 32 2 (.slice a l c) l (lsC us)) (hl : l ≤ 1000) :
    ∃ a2 c2 w2, (appI #[33, 33] 33 #[.slice a l c, .slice (some ⟨V.heap.size, 0, none⟩) 1 1]).run Tryz.prog (V.alloc (.cells #[.int .u16 (p.1 : Int), .int .u16 (p.2 : Int)] 32)) = .ok (.slice a2 (l + 1) c2) w2 ∧
      On w2 32 2 (.slice a2 (l + 1) c2) (l + 1) (lsC (us ++ [p])) ∧ (V.alloc (.cells #[.int .u16 (p.1 : Int), .int .u16 (p.2 : Int)] 32)).grownBy w2 (Value.ownBlock (.slice a l c)) ∧ (∀ g, Value.ownBlock (.slice a2 (l + 1) c2) = some g → Value.ownBlock (.slice a l c) = some g ∨ V.heap.size ≤ g) := by
  obtain ⟨i0, hi, hz0, hz1, hz2⟩ := info_parts infoI2
  obtain ⟨v1, w1, hrun, hon1, hg1, hv1⟩ := run_append_on (P := Tryz.prog) (V.alloc (.cells #[.int .u16 (p.1 : Int), .int .u16 (p.2 : Int)] 32)) 33 33 32 i0 _ 2 4 Tryz.underlying33 hi hz0 hz1 hz2 rfl (by omega)
    (.slice a l c) l (lsC us) (hon.alloc _) (some ⟨V.heap.size, 0, none⟩) 1 1 (inC p).toList (by rfl) (src_blk1 (Blk.new V _ _) 1) (by intro u hu; simp [inC] at hu; rcases hu with rfl | rfl <;> rfl) (by simp only [maxLen]; omega) (by omega)
  rw [← lsC_snoc] at hon1
  obtain ⟨a2, c2, rfl, _, _⟩ := hon1.slice
  refine ⟨a2, c2, w1, hrun, hon1, hg1, fun g hg => ?_⟩
  rcases hv1 with e | e
  · exact .inl (e ▸ hg)
  · rw [e] at hg; cases hg; exact .inr (by simp)
theorem dE_adv (c : Cfg) (y : DV) (x : H) (v : Nat) (a : Option Addr) (cc : Nat) (h1 : (adv1 c x v).us.length = x.us.length) : dE c { y with au := a, cu := cc } (adv3 c x v) = (dE c y (adv1 c x v)).setIfInBounds 7 (.slice a (x.us.length + 1) cc) := by
  have eu : (adv3 c x v).us.length = x.us.length + 1 := by
    show (setAt (adv1 c x v).us x.us.length _).length = _
    rw [setAt_len (by omega)]; omega
  unfold dE
  rw [eu]
  rfl
theorem adv_us (c : Cfg) (x : H) (v : Nat) (h1 : (adv1 c x v).us.length = x.us.length) : (adv3 c x v).us = (adv1 c x v).us ++ [thx (adv1 c x v) x.us.length] := by
  show setAt (adv1 c x v).us x.us.length (thx (adv1 c x v) x.us.length) = _
  unfold setAt
  rw [if_pos h1.symm]
section
attribute [local go_sem ↓] append_I exec_ldE
attribute [local go_sem] loadE_at cellsAt_drew
set_option maxRecDepth 100000 in
set_option maxHeartbeats 8000000 in
theorem radv_no (w : World) (c : Cfg) (x : H) (y : DV) (v : Nat) (h : Doc w y x) (j : J c x) (hT : advT c x) :
    Calls Tryz.prog 44 #[.agg (dE c y x), .int .u16 (v : Int)] w fun e w' => e = .returned (.tuple #[.agg (dE c y x), .bool false]) ∧ Below w.heap.size w w' := by
  obtain ⟨Z, hZ⟩ : ∃ Z, zE = Z := ⟨_, rfl⟩
  have hZs : Z.size = 12 := by rw [← hZ]; exact zE_size
  obtain ⟨W1, hW1⟩ : ∃ W1, W1 = (w.alloc (.cells (dE c y x) 35)).alloc (.cells Z 35) := ⟨_, rfl⟩
  have hX : Blk W1 w.heap.size 35 (dE c y x) := by rw [hW1]; exact (Blk.new w _ _).alloc _
  have hR : Blk W1 (w.heap.size + 1) 35 Z := by
    rw [hW1]
    have := Blk.new (w.alloc (.cells (dE c y x) 35)) 35 Z
    simpa using this
  have hB : Below w.heap.size w W1 := by rw [hW1]; exact ((Below.refl _ w).alloc (Nat.le_refl _) _).alloc (by simp) _
  have hes := dE_size c y x
  have hei := dE_info c y x
  have heo := dE_one c y x
  have hzs1 : Z.size = (dE c y x).size := by rw [hes, hZs]
  obtain ⟨d0, d1, d2, d3, d4, d5, d6, d7, d8, d9, d10, d11⟩ := dE_cells hX
  have q2 := cell_regrown d2
  have q7 := cell_regrown d7
  have cC := regrown W1 (fun W hb => rconf_any W c x y)
  have HC := Lib.hid (show ∀ W, Below W1.heap.size W1 W → cellsAt W w.heap.size = dE c y x from fun W hb => cellsAt_blk (hX.below hb hX.lt))
  have hcr : ∀ (d : Nat) (os : Array Obj), cellsAt (grow (redrawn W1 d) os) w.heap.size = dE c y x := fun d os => HC.out _ (below_regrown W1 d os)
  have HB := Lib.hid hB
  have HX := Lib.hid hX
  have HR := Lib.hid hR
  have hun := j.un
  have hk0 := j.kn 0 (by omega)
  have hk1 := j.kn 1 (by omega)
  have hcf := minI_le (x.ks 0).length (x.ks 1).length
  have ecf : confH x = minI (x.ks 0).length (x.ks 1).length := rfl
  have hT' : c.ah ≤ (x.us.length : Int) - confH x := hT
  have hwp : IntKind.i64.wrap ((x.us.length : Int) - confH x) = (x.us.length : Int) - confH x := IntWalk.i64_in _ (by omega)
  clear hX hR hB d0 d1 d2 d3 d4 d5 d6 d7 d8 d9 d10 d11 h j hT ecf hcf hk0 hk1 hun
  generalize x.us.length = l2 at *
  generalize confH x = cf at *
  obtain ⟨E, hE⟩ : ∃ E, dE c y x = E := ⟨_, rfl⟩
  rw [hE] at hW1 hes hei heo hzs1 HX cC hcr ⊢
  clear HC hE
  go_enter Tryz.func44, Tryz.ntmps44
  go_upto_region 1 with fail
  rw [← hZ] at hW1
  unfold zE at hW1
  rw [← hW1]
  clear hW1
  refine wp_region_quiet_below (by kernel_rfl) (by kernel_rfl) ?_
  repeat (quiet_step (first | exact cC _ _))
  refine wpQuiet_nil ?_
  intro W2 hw'
  obtain ⟨⟨dq, osq⟩, hw''⟩ := hw'
  have hb2 : Below W1.heap.size W1 W2 := by rw [hw'']; exact below_regrown _ _ _
  have HBL := HX.out.below hb2 HX.out.lt
  have HRL := HR.out.below hb2 HR.out.lt
  have HB2 := Lib.hid (HB.out.trans (hb2.mono HB.out.size))
  clear hw'' hb2 cC q2 q7 hcr
  go_upto_region 2 with fail
  go_wp2_with (first | (refine wpList_load_blk (by rfl) 35 _ (by rfl) w.heap.size (by rfl) _ E _ HBL Tryz.underlying35 (by rfl) hei ?_) | (refine wpList_store_blk (by rfl) 35 _ _ (by rfl) (w.heap.size + 1) E (by rfl) (by rfl) _ Z HRL hei hzs1 heo ?_; intro W6 hd6 ht6) | fail)
  refine bodyPost_ret (v := .tuple #[.agg E, .bool false]) (pair_resultsD Tryz.results44 _ _ (w.heap.size + 1) _ E _ hd6 hei (by rfl) (by rfl)) rfl ?_
  exact ⟨rfl, HB2.out.trans (ht6.below HB2.out.size (fun k hk => by omega))⟩
set_option maxRecDepth 100000 in
set_option maxHeartbeats 16000000 in
theorem radv_yes (w : World) (c : Cfg) (x : H) (y : DV) (v : Nat) (h : Doc w y x) (j : J c x) (hv : v < 65536) (hn : x.us.length < 110) (hT : ¬ advT c x) (hro : x.ro ≤ 100000) (hre : x.re ≤ 1000000) :
    Calls Tryz.prog 44 #[.agg (dE c y x), .int .u16 (v : Int)] w fun e w' => ∃ y', e = .returned (.tuple #[.agg (dE c y' (adv3 c x v)), .bool true]) ∧ Doc w' y' (adv3 c x v) ∧ DNew w w' y y' := by
  obtain ⟨Z, hZ⟩ : ∃ Z, zE = Z := ⟨_, rfl⟩
  have hZs : Z.size = 12 := by rw [← hZ]; exact zE_size
  obtain ⟨W1, hW1⟩ : ∃ W1, W1 = (w.alloc (.cells (dE c y x) 35)).alloc (.cells Z 35) := ⟨_, rfl⟩
  have hX : Blk W1 w.heap.size 35 (dE c y x) := by rw [hW1]; exact (Blk.new w _ _).alloc _
  have hR : Blk W1 (w.heap.size + 1) 35 Z := by
    rw [hW1]
    have := Blk.new (w.alloc (.cells (dE c y x) 35)) 35 Z
    simpa using this
  have hB : Below w.heap.size w W1 := by rw [hW1]; exact ((Below.refl _ w).alloc (Nat.le_refl _) _).alloc (by simp) _
  have hes := dE_size c y x
  have hei := dE_info c y x
  obtain ⟨d0, d1, d2, d3, d4, d5, d6, d7, d8, d9, d10, d11⟩ := dE_cells hX
  have q2 := cell_regrown d2
  have q7 := cell_regrown d7
  have cC := regrown W1 (fun W hb => rconf_any W c x y)
  have HC := Lib.hid (show ∀ W, Below W1.heap.size W1 W → cellsAt W w.heap.size = dE c y x from fun W hb => cellsAt_blk (hX.below hb hX.lt))
  have hcr : ∀ (d : Nat) (os : Array Obj), cellsAt (grow (redrawn W1 d) os) w.heap.size = dE c y x := fun d os => HC.out _ (below_regrown W1 d os)
  have HB := Lib.hid hB
  have HX := Lib.hid hX
  have HR := Lib.hid hR
  have HD := Lib.hid (h.below hB)
  have HLT := Lib.hid h.lt
  have hun := j.un
  have hk0 := j.kn 0 (by omega)
  have hk1 := j.kn 1 (by omega)
  have hcf := minI_le (x.ks 0).length (x.ks 1).length
  have ecf : confH x = minI (x.ks 0).length (x.ks 1).length := rfl
  have hT' : ¬ c.ah ≤ (x.us.length : Int) - confH x := hT
  have hwp : IntKind.i64.wrap ((x.us.length : Int) - confH x) = (x.us.length : Int) - confH x := IntWalk.i64_in _ (by omega)
  have pF := Lib.hid (fun W hd => rfix_any W c x y hd j hro hre)
  have hlo := j.lo
  have pA := Lib.hid (fun W y1 hd => radd_any W c (fixH x) y1 c.lo v hlo hd j.fix)
  have h1s := (adv1_same j v).2.2.2.2
  have HAU := Lib.hid (adv_us c x v h1s)
  have HDE := Lib.hid (fun y a cc => dE_adv c y x v a cc h1s)
  obtain ⟨us1, hus1⟩ : ∃ us1, (adv1 c x v).us = us1 := ⟨_, rfl⟩
  have H1 := Lib.hid hus1
  have hul : us1.length = x.us.length := by rw [← hus1]; exact h1s
  rw [hus1] at HAU
  clear hX hR hB d0 d1 d2 d3 d4 d5 d6 d7 d8 d9 d10 d11 h j hT ecf hcf hk0 hk1 hus1 hro hre h1s
  obtain ⟨l, hl⟩ : ∃ l, x.us.length = l := ⟨_, rfl⟩
  rw [hl] at q7 hT' hwp hun hn HDE hul HAU
  obtain ⟨E, hE⟩ : ∃ E, dE c y x = E := ⟨_, rfl⟩
  rw [hE] at hW1 hes hei HX cC hcr pF ⊢
  clear HC hE hl
  generalize confH x = cf at *
  go_enter Tryz.func44, Tryz.ntmps44
  go_upto_region 1 with fail
  rw [← hZ] at hW1
  unfold zE at hW1
  rw [← hW1]
  clear hW1
  refine wp_region_quiet_below (by kernel_rfl) (by kernel_rfl) ?_
  repeat (quiet_step (first | exact cC _ _))
  refine wpQuiet_nil ?_
  intro W2 hw'
  obtain ⟨⟨dq, osq⟩, hw''⟩ := hw'
  have hb2 : Below W1.heap.size W1 W2 := by rw [hw'']; exact below_regrown _ _ _
  have HBL := HX.out.below hb2 HX.out.lt
  have hlt2 := (HR.out.below hb2 HR.out.lt).lt
  have HRL := Lib.hid (HR.out.below hb2 HR.out.lt)
  have HB2 := Lib.hid (HB.out.trans (hb2.mono HB.out.size))
  have HD2 := Lib.hid (HD.out.below hb2)
  clear hw'' hb2 cC q2 q7 hcr HX HR HB HD
  go_upto_region 3 with fail
  go_wp2_with (first | (refine wpList_load_blk (by rfl) 35 _ (by rfl) w.heap.size (by rfl) _ E _ HBL Tryz.underlying35 (by rfl) hei ?_) | fail)
  refine (pF.out W2 HD2.out).mono ?_
  rintro e w3 ⟨y1, rfl, hD3, hN3⟩
  have HBL3 := HBL.below hN3.1 HBL.lt
  have HRL3 := Lib.hid (HRL.out.below hN3.1 HRL.out.lt)
  have HN3 := Lib.hid (show DNew w w3 y y1 from ⟨HB2.out.trans (hN3.1.mono HB2.out.size), fun k hk => (hN3.2 k hk).imp id (fun e => Nat.le_trans HB2.out.size e)⟩)
  have HO3 := Lib.hid (show ∀ k, y1.own k → ¬ k = w.heap.size ∧ ¬ k = w.heap.size + 1 from fun k hk => by
    rcases hN3.2 k hk with a | a
    · have := HLT.out k a; omega
    · omega)
  have hz3 := hN3.1.size
  have HD3 := Lib.hid hD3
  have he1 := dE_size c y1 (fixH x)
  have hi1 := dE_info c y1 (fixH x)
  have ho1 := dE_one c y1 (fixH x)
  have HC1 := Lib.hid (show ∀ W, Blk W w.heap.size 35 (dE c y1 (fixH x)) → W.cell? ⟨w.heap.size, 1, none⟩ = some (.int .i64 (c.lo : Int)) from fun W hb => (dE_cells hb).2.1)
  have pA1 := Lib.hid (fun W hd => pA.out W y1 hd)
  obtain ⟨E1, hE1⟩ : ∃ E1, dE c y1 (fixH x) = E1 := ⟨_, rfl⟩
  rw [hE1] at he1 hi1 ho1 HC1 pA1 ⊢
  have hzs1 : E.size = E1.size := by rw [he1, hes]
  clear hE1 hD3 hN3 pA pF HBL HRL HD2
  go_upto_region 4 with (first | (refine wpList_store_blk (by rfl) 35 _ _ (by rfl) w.heap.size E1 (by rfl) (by rfl) _ E HBL3 hi1 hzs1 ho1 ?_; intro W4 hd4 ht4) | fail)
  have HRL4 := Lib.hid (HRL3.out.touch ht4 (by omega))
  have HD4 := Lib.hid (HD3.out.touch ht4 (fun k hk e => (HO3.out k hk).1 e))
  have HN4 := Lib.hid (HN3.out.touchR (Nat.le_refl _) ht4)
  have hz4 := ht4.size
  have k1 := HC1.out W4 hd4
  clear HBL3 HRL3 HD3 HN3 ht4 HC1
  go_wp2_with (first | (refine wpList_load_blk (by rfl) 35 _ (by rfl) w.heap.size (by rfl) _ E1 _ hd4 Tryz.underlying35 (by rfl) hi1 ?_) | fail)
  refine (pA1.out W4 HD4.out).mono ?_
  rintro e w5 ⟨y2, rfl, hD5, hN5⟩
  have HBL5 := hd4.below hN5.1 hd4.lt
  have HRL5 := Lib.hid (HRL4.out.below hN5.1 HRL4.out.lt)
  have HN5 := Lib.hid (HN4.out.trans hN5)
  have HO5 := Lib.hid (show ∀ k, y2.own k → ¬ k = w.heap.size ∧ ¬ k = w.heap.size + 1 from fun k hk => by
    rcases hN5.2 k hk with a | a
    · exact HO3.out k a
    · omega)
  have HD5 := Lib.hid (show Doc w5 y2 (adv1 c x v) from hD5)
  rw [show addH (fixH x) c.lo v = adv1 c x v from rfl]
  have he2 := dE_size c y2 (adv1 c x v)
  have hi2 := dE_info c y2 (adv1 c x v)
  have ho2 := dE_one c y2 (adv1 c x v)
  have HC2 := Lib.hid (show ∀ W, Blk W w.heap.size 35 (dE c y2 (adv1 c x v)) → W.cell? ⟨w.heap.size, 7, none⟩ = some (.slice y2.au l y2.cu) from fun W hb => by
    have := (dE_cells hb).2.2.2.2.2.2.2.1
    rw [H1.out, hul] at this
    exact this)
  have HT0 := Lib.hid (show ∀ W, Doc W y2 (adv1 c x v) → Calls Tryz.prog 73 #[.agg (dE c y2 (adv1 c x v)), .int .i64 0, .int .i64 (l : Int)] W fun e w' => e = .returned (.int .u16 (th (adv1 c x v) 0 l : Int)) ∧ Below W.heap.size W w' from fun W hd => thought_any W c (adv1 c x v) y2 hd 0 l (by omega) (by omega))
  have HT1 := Lib.hid (show ∀ W, Doc W y2 (adv1 c x v) → Calls Tryz.prog 73 #[.agg (dE c y2 (adv1 c x v)), .int .i64 1, .int .i64 (l : Int)] W fun e w' => e = .returned (.int .u16 (th (adv1 c x v) 1 l : Int)) ∧ Below W.heap.size W w' from fun W hd => thought_any W c (adv1 c x v) y2 hd 1 l (by omega) (by omega))
  have HDE2 := Lib.hid (fun a cc => HDE.out y2 a cc)
  have HOU := Lib.hid (show ∀ W, Doc W y2 (adv1 c x v) → On W 32 2 (.slice y2.au l y2.cu) l (lsC us1) from fun W hd => by
    have := hd.us
    rw [H1.out, hul] at this
    exact this)
  obtain ⟨E2, hE2⟩ : ∃ E2, dE c y2 (adv1 c x v) = E2 := ⟨_, rfl⟩
  rw [hE2] at he2 hi2 ho2 HC2 HT0 HT1 HDE2 ⊢
  have hzs2 : E1.size = E2.size := by rw [he1, he2]
  have hz5 := hN5.1.size
  clear hE2 hD5 hN5 k1 hd4 HRL4 HN4 HD4 HO3 HDE
  go_upto_region 5 with (first | (refine wpList_store_blk (by rfl) 35 _ _ (by rfl) w.heap.size E2 (by rfl) (by rfl) _ E1 HBL5 hi2 hzs2 ho2 ?_; intro W6 hd6 ht6) | fail)
  have HRL6 := Lib.hid (HRL5.out.touch ht6 (by omega))
  have HD6 := Lib.hid (HD5.out.touch ht6 (fun k hk e => (HO5.out k hk).1 e))
  have HN6 := Lib.hid (HN5.out.touchR (Nat.le_refl _) ht6)
  have hz6 := ht6.size
  have u6 := HC2.out W6 hd6
  clear HBL5 HRL5 HD5 HN5 ht6
  go_upto_region 6 with fail
  have u6d : W6.drew.cell? ⟨w.heap.size, 7, none⟩ = some (.slice y2.au l y2.cu) := u6
  have c6d : cellsAt W6.drew w.heap.size = E2 := cellsAt_blk hd6
  have u6a : (W6.alloc (.cells #[] 32)).drew.cell? ⟨w.heap.size, 7, none⟩ = some (.slice y2.au l y2.cu) := HC2.out _ (hd6.alloc _)
  have c6a : cellsAt (W6.alloc (.cells #[] 32)).drew w.heap.size = E2 := cellsAt_blk (hd6.alloc _)
  obtain ⟨a1, c1, w7, hr1, hon7, b7, how7⟩ := copyV W6 _ rfl y2.au l y2.cu us1 hul (HOU.out W6 HD6.out) (by omega)
  have hx7 := hd6.below b7 hd6.lt
  have c7 : cellsAt w7 w.heap.size = E2 := cellsAt_blk hx7
  have u7 := HC2.out w7 hx7
  have HD7 := Lib.hid (HD6.out.below b7)
  have hx6l := hd6.lt
  have hr6l := HRL6.out.lt
  have HU7 := Lib.hid HC2.out
  obtain ⟨t0, ht0⟩ : ∃ t0, th (adv1 c x v) 0 l = t0 := ⟨_, rfl⟩
  obtain ⟨t1, ht1⟩ : ∃ t1, th (adv1 c x v) 1 l = t1 := ⟨_, rfl⟩
  have HTX := Lib.hid (show thx (adv1 c x v) l = (t0, t1) from by rw [← ht0, ← ht1]; rfl)
  rw [ht0] at HT0
  rw [ht1] at HT1
  have pT0 := HT0
  have pT1 := HT1
  have HFIN := Lib.hid (show ∀ (w9 w10 : World) (a2 : Option Addr) (c2 : Nat), Below w7.heap.size w7 w9 → (w9.alloc (.cells #[.int .u16 (t0 : Int), .int .u16 (t1 : Int)] 32)).grownBy w10 (Value.ownBlock (.slice a1 l c1)) → On w10 32 2 (.slice a2 (l + 1) c2) (l + 1) (lsC (us1 ++ [(t0, t1)])) → (∀ g, Value.ownBlock (.slice a2 (l + 1) c2) = some g → Value.ownBlock (.slice a1 l c1) = some g ∨ w9.heap.size ≤ g) →
      w10.cell? ⟨w.heap.size, 7, none⟩ = some (.slice y2.au l y2.cu) ∧ w10.frozen? ⟨w.heap.size, 7, none⟩ = false ∧
      ∃ E9, Blk (w10.setCell ⟨w.heap.size, 7, none⟩ (.slice a2 (l + 1) c2)) w.heap.size 35 E9 ∧ Blk (w10.setCell ⟨w.heap.size, 7, none⟩ (.slice a2 (l + 1) c2)) (w.heap.size + 1) 35 Z ∧ E9.size = 12 ∧ E9.all (·.oneCell') = true ∧ (Tryz.prog.info? 35).map (·.size) = some E9.size ∧
        ∀ W', Touch (fun k => k = w.heap.size + 1) (w10.setCell ⟨w.heap.size, 7, none⟩ (.slice a2 (l + 1) c2)) W' → ∃ y', Ending.returned (.tuple #[.agg E9, .bool true]) = .returned (.tuple #[.agg (dE c y' (adv3 c x v)), .bool true]) ∧ Doc W' y' (adv3 c x v) ∧ DNew w W' y y' from fun w9 w10 a2 c2 b79 hg hon how => by
    have b69 : Below W6.heap.size W6 w9 := b7.trans (b79.mono b7.size)
    have b6p := b69.alloc b69.size (.cells #[.int .u16 (t0 : Int), .int .u16 (t1 : Int)] 32)
    have b610 : Below W6.heap.size W6 w10 := below_grown b6p hg how7 b6p.size
    have hx10 := hd6.below b610 hd6.lt
    have hr10 := HRL6.out.below b610 HRL6.out.lt
    have hd10 := HD6.out.below b610
    have hzz := b69.size
    have hfresh : ∀ g, Value.ownBlock (.slice a2 (l + 1) c2) = some g → W6.heap.size ≤ g := fun g hg => by
      rcases how g hg with e | e
      · exact how7 g e
      · omega
    have hE9 := HDE2.out a2 c2
    refine ⟨HC2.out w10 hx10, hx10.frozen 7, E2.setIfInBounds 7 (.slice a2 (l + 1) c2), Blk.set_ hx10 7 _, hr10.far (by simp) _, by simpa using he2, by rw [← hE9]; exact dE_one _ _ _, by rw [show (E2.setIfInBounds 7 (.slice a2 (l + 1) c2)).size = 12 by simpa using he2]; exact infoE, fun W' ht => ?_⟩
    have hT7 : Touch (fun k => k = w.heap.size) w10 (w10.setCell ⟨w.heap.size, 7, none⟩ (.slice a2 (l + 1) c2)) := Touch.setCell (S := fun k => k = w.heap.size) (p := ⟨w.heap.size, 7, none⟩) (Touch.refl _ _) (.inl rfl) _
    have hd11 := (hd10.touch hT7 (fun k hk e => (HO5.out k hk).1 e)).touch ht (fun k hk e => (HO5.out k hk).2 e)
    have hon11 := (hon.touch hT7 (fun k hk e => by have := hfresh k hk; omega)).touch ht (fun k hk e => by have := hfresh k hk; omega)
    refine ⟨{ y2 with au := a2, cu := c2 }, by rw [hE9], ⟨hd11.k0, hd11.k1, ?_⟩, ?_, fun k hk => ?_⟩
    · rw [HAU.out, HTX.out, List.length_append, List.length_singleton, hul]; exact hon11
    · exact ((HN6.out.1.trans (b610.mono HN6.out.1.size)).trans (hT7.below (HN6.out.1.trans (b610.mono HN6.out.1.size)).size (fun k hk => by omega))).trans (ht.below (by have := HN6.out.1.size; have := b610.size; simp; omega) (fun k hk => by omega))
    · rcases hk with hk | hk | hk
      · exact HN6.out.2 k (.inl hk)
      · exact HN6.out.2 k (.inr (.inl hk))
      · exact .inr (Nat.le_trans HN6.out.1.size (hfresh k (own_to hk))))
  clear HD6 HN6 HRL6 HDE2 HOU HC2 HAU H1 HT0 HT1 how7 u6 hz6 HO5
  go_cut [] (fun wx => ∃ E9, Blk wx w.heap.size 35 E9 ∧ Blk wx (w.heap.size + 1) 35 Z ∧ E9.size = 12 ∧ E9.all (·.oneCell') = true ∧ (Tryz.prog.info? 35).map (·.size) = some E9.size ∧
        ∀ W', Touch (fun k => k = w.heap.size + 1) wx W' → ∃ y', Ending.returned (.tuple #[.agg E9, .bool true]) = .returned (.tuple #[.agg (dE c y' (adv3 c x v)), .bool true]) ∧ Doc W' y' (adv3 c x v) ∧ DNew w W' y y')
  case first =>
    go_region_law
      (first
        | (go_simp; (go_at_call 73; (with_reducible refine (pT0.out _ HD7.out).mono ?_); rintro e w8 ⟨rfl, b8⟩; have hx8 := hx7.below b8 hx7.lt; have c8 : cellsAt w8 w.heap.size = E2 := cellsAt_blk hx8; have u8 := HU7.out w8 hx8))
        | (go_simp; (go_at_call 73; (with_reducible refine (pT1.out _ (HD7.out.below b8)).mono ?_); rintro e w9 ⟨rfl, b9⟩; have b79 := b8.trans (b9.mono b8.size); have hx9 := hx7.below b79 hx7.lt; have c9 : cellsAt w9 w.heap.size = E2 := cellsAt_blk hx9; have u9 := HU7.out w9 hx9; obtain ⟨a2, c2, w10, hr2, hon10, hg10, how10⟩ := appV w9 a1 l c1 us1 (t0, t1) hul (hon7.below b79 hon7.lt) (by omega); have hF := HFIN.out w9 w10 a2 c2 b79 hg10 hon10 how10; have c10 : cellsAt (w9.alloc (.cells #[.int .u16 (t0 : Int), .int .u16 (t1 : Int)] 32)) w.heap.size = E2 := cellsAt_blk (hx9.alloc _); have u10 := hF.1; have f10 := hF.2.1))
        | fail)
    all_goals
      have HF := Lib.hid hF.2.2
      clear hF
      go_wp2_with fail
      go_meet
      exact HF.out
  case rest =>
    obtain ⟨E9, HBL9, HRL9, he9, ho9, hi9, hfin9⟩ := hcut
    have HF9 := Lib.hid hfin9
    have hzs9 : Z.size = E9.size := by rw [he9, hZs]
    clear hfin9 hr1
    go_wp2_with (first | (refine wpList_load_blk (by rfl) 35 _ (by rfl) w.heap.size (by rfl) _ E9 _ HBL9 Tryz.underlying35 (by rfl) hi9 ?_) | (refine wpList_store_blk (by rfl) 35 _ _ (by rfl) (w.heap.size + 1) E9 (by rfl) (by rfl) _ Z HRL9 hi9 hzs9 ho9 ?_; intro W11 hd11 ht11) | fail)
    refine bodyPost_ret (v := .tuple #[.agg E9, .bool true]) (pair_resultsD Tryz.results44 _ _ (w.heap.size + 1) _ E9 _ hd11 hi9 (by rfl) (by rfl)) rfl ?_
    exact HF9.out W11 ht11
end
theorem radv_any (w : World) (c : Cfg) (x : H) (y : DV) (v : Nat) (h : Doc w y x) (j : J c x) (hv : v < 65536) (hn : x.us.length < 110) (hro : x.ro ≤ 100000) (hre : x.re ≤ 1000000) :
    Calls Tryz.prog 44 #[.agg (dE c y x), .int .u16 (v : Int)] w fun e w' => ∃ y', e = .returned (.tuple #[.agg (dE c y' (advH c x v)), .bool (decide (¬ advT c x))]) ∧ Doc w' y' (advH c x v) ∧ DNew w w' y y' := by
  by_cases hT : advT c x
  · rw [show advH c x v = x from if_pos hT, decide_eq_false (fun h => h hT)]
    exact (radv_no w c x y v h j hT).mono fun e w' ⟨he, hb⟩ => ⟨y, he, h.below hb, DNew.refl_ y hb⟩
  · rw [show advH c x v = adv3 c x v from if_neg hT, decide_eq_true hT]
    exact radv_yes w c x y v h j hv hn hT hro hre
end Go.Proofs.YtckkpgopddnkiaaGreat.Rl
namespace Go.Proofs.YtckkpgopddnkiaaGreat.Rl
open Go.RowKit Go.Sort Go.Shelf Go.Proofs.YtckkpgopddnkiaaGreat.Gm Go.Proofs.YtckkpgopddnkiaaGreat.RingE Go.Proofs.YtckkpgopddnkiaaGreat.Inputq
set_option linter.all false

set_option maxRecDepth 100000 in
set_option maxHeartbeats 1000000 in
theorem redone_any (w : World) (g : Nat) (v : Int) (h : w.cell? ⟨g, 74, none⟩ = some (.int .i64 v)) :
    Calls Tryz.prog 48 #[.pointer (some ⟨g, 0, none⟩)] w fun e w' => e = .returned (.int .i64 v) ∧ w' = w := by
  go_enter Tryz.func48, Tryz.ntmps48
  go_wp2
  go_ret
  exact ⟨rfl, rfl⟩
set_option maxRecDepth 100000 in
set_option maxHeartbeats 1000000 in
theorem worst_any (w : World) (g : Nat) (v : Int) (h : w.cell? ⟨g, 75, none⟩ = some (.int .i64 v)) :
    Calls Tryz.prog 49 #[.pointer (some ⟨g, 0, none⟩)] w fun e w' => e = .returned (.int .i64 v) ∧ w' = w := by
  go_enter Tryz.func49, Tryz.ntmps49
  go_wp2
  go_ret
  exact ⟨rfl, rfl⟩
section
variable {w : World} {c : Cfg} {s : SE} {x : H}
theorem HAt.c74 (h : HAt w c s x) : w.cell? ⟨s.g, 74, none⟩ = some (.int .i64 (x.re : Int)) := by
  obtain ⟨p, C, hE, hs⟩ := h
  have := hE.c74
  rw [hs.re] at this
  exact this
theorem HAt.c75 (h : HAt w c s x) : w.cell? ⟨s.g, 75, none⟩ = some (.int .i64 (x.wo : Int)) := by
  obtain ⟨p, C, hE, hs⟩ := h
  have := hE.c75
  rw [hs.wo] at this
  exact this
end
set_option maxRecDepth 100000 in
set_option maxHeartbeats 1000000 in
theorem estate_any (w : World) (c : Cfg) (s : SE) (p : P) (C : Array Value) (h : EAt w c s p C) :
    Calls Tryz.prog 20 #[.pointer (some ⟨s.g, 0, none⟩)] w fun e w' => e = .returned (.agg C) ∧ Below w.heap.size w w' := by
  obtain ⟨W1, hW1⟩ : ∃ W1, W1 = w.alloc (.cells Tryz.zeroCells47 47) := ⟨_, rfl⟩
  have hR : Blk W1 w.heap.size 47 Tryz.zeroCells47 := by rw [hW1]; exact Blk.new _ _ _
  have hB : Below w.heap.size w W1 := by rw [hW1]; exact (Below.refl _ w).alloc (Nat.le_refl _) _
  have hr : W1.rangeAt s.g 7 C.toList := by rw [hW1]; exact (h.alloc _).mid
  have hi : (Tryz.prog.info? 47).map (·.size) = some C.toList.length := by rw [h.st.info]; simp
  have hzs : Tryz.zeroCells47.size = C.size := by rw [h.st.size, ← stA_zero]; exact stA_size _
  have hif := h.st.info
  have hone := h.st.one
  clear h
  generalize s.g = g at *
  go_enter Tryz.func20, Tryz.ntmps20
  go_upto_region 1 with fail
  rw [← hW1]
  clear hW1
  go_wp2_with (first | (refine wpList_load_mid (by rfl) 47 _ (by rfl) g 7 (by rfl) C.toList _ hr Tryz.underlying47 (by rfl) hi ?_) | (refine wpList_store_blk (by rfl) 47 _ _ (by rfl) w.heap.size C (by rfl) (by rfl) _ _ hR hif hzs hone ?_; intro W6 hd6 ht6) | fail)
  refine bodyPost_ret (v := .agg C) (results_blk Tryz.results20 _ _ w.heap.size _ _ _ (by rfl) hd6 Tryz.underlying47 (by rfl) hif) rfl ⟨rfl, ?_⟩
  exact hB.trans (ht6.below hB.size (fun k hk => by omega))
theorem state_h {w : World} {c : Cfg} {s : SE} {x : H} (h : HAt w c s x) : ∃ C, Let C (pl c.sd x.us x.us.length) ∧ ∀ W, Below w.heap.size w W → Calls Tryz.prog 20 #[.pointer (some ⟨s.g, 0, none⟩)] W fun e w' => e = .returned (.agg C) ∧ Below W.heap.size W w' := by
  obtain ⟨p, C, hE, hs⟩ := h
  have := hE.st
  rw [hs.f] at this
  exact ⟨C, this, fun W hb => estate_any W c s p C (hE.below hb)⟩

section
attribute [local go_sem ↓] exec_ldE
attribute [local go_sem] loadE_at cellsAt_drew
set_option maxRecDepth 100000 in
set_option maxHeartbeats 8000000 in
theorem is_any (w : World) (c : Cfg) (s : SE) (x : H) (y : DV) (h : HAt w c s x) (j : J c x) :
    Calls Tryz.prog 23 #[.pointer (some ⟨s.g, 0, none⟩), .agg (dE c y x)] w fun e w' => e = .returned (.bool true) ∧ Below w.heap.size w w' := by
  obtain ⟨W1, hW1⟩ : ∃ W1, W1 = w.alloc (.cells (dE c y x) 35) := ⟨_, rfl⟩
  have hX : Blk W1 w.heap.size 35 (dE c y x) := by rw [hW1]; exact Blk.new w _ _
  have hB : Below w.heap.size w W1 := by rw [hW1]; exact (Below.refl _ w).alloc (Nat.le_refl _) _
  have h1 := h.below hB
  have hes := dE_size c y x
  have hun := j.un
  have hk0 := j.kn 0 (by omega)
  have hk1 := j.kn 1 (by omega)
  have hcf := minI_le (x.ks 0).length (x.ks 1).length
  have ecf : confH x = minI (x.ks 0).length (x.ks 1).length := rfl
  have hwp : IntKind.i64.wrap ((x.us.length : Int) - confH x) = (x.us.length : Int) - confH x := IntWalk.i64_in _ (by omega)
  have hAll := Lib.hid (show ∀ V, Below W1.heap.size W1 V → (∀ d os, (grow (redrawn V d) os).cell? ⟨w.heap.size, 2, none⟩ = some (.int .i64 c.ah)) ∧ (∀ d os, (grow (redrawn V d) os).cell? ⟨w.heap.size, 7, none⟩ = some (.slice y.au x.us.length y.cu)) ∧ (∀ d os, (grow (redrawn V d) os).cell? ⟨w.heap.size, 9, none⟩ = some (.int .i64 (x.ro : Int))) ∧ (∀ d os, (grow (redrawn V d) os).cell? ⟨w.heap.size, 10, none⟩ = some (.int .i64 (x.re : Int))) ∧ (∀ d os, (grow (redrawn V d) os).cell? ⟨w.heap.size, 11, none⟩ = some (.int .i64 (x.wo : Int))) ∧ (∀ d os, cellsAt (grow (redrawn V d) os) w.heap.size = dE c y x) from fun V hb => by
    have hXV := hX.below hb hX.lt
    obtain ⟨d0, d1, d2, d3, d4, d5, d6, d7, d8, d9, d10, d11⟩ := dE_cells hXV
    exact ⟨cell_regrown d2, cell_regrown d7, cell_regrown d9, cell_regrown d10, cell_regrown d11, fun d os => cellsAt_blk (hXV.below (below_regrown V d os) hXV.lt)⟩)
  have mF := Lib.hid (fun V hb => regrown V (v := .int .i64 (x.us.length : Int)) (fun W hW => (frame_any W s.g _ (frame_h ((h1.below hb).below hW) j.j0)).mono (by rintro e w' ⟨rfl, rfl⟩; exact ⟨rfl, Below.refl _ _⟩)))
  have mC := Lib.hid (fun V hb => regrown V (v := .int .i64 (confH x)) (fun W hW => (conf_h ((h1.below hb).below hW) j.j0).mono (by rintro e w' ⟨rfl, n, rfl⟩; exact ⟨rfl, below_drewN (Below.refl _ W) n⟩)))
  have mS := Lib.hid (fun V hb => regrown V (v := .int .i64 (sureH x)) (fun W hW => (sure_h ((h1.below hb).below hW) j.j0).mono (by rintro e w' ⟨rfl, n, rfl⟩; exact ⟨rfl, below_drewN (Below.refl _ W) n⟩)))
  have mR := Lib.hid (fun V hb => regrown V (v := .int .i64 (x.ro : Int)) (fun W hW => (rolls_h ((h1.below hb).below hW)).mono (by rintro e w' ⟨rfl, rfl⟩; exact ⟨rfl, Below.refl _ _⟩)))
  have mE := Lib.hid (fun V hb => regrown V (v := .int .i64 (x.re : Int)) (fun W hW => (redone_any W s.g _ ((h1.below hb).below hW).c74).mono (by rintro e w' ⟨rfl, rfl⟩; exact ⟨rfl, Below.refl _ _⟩)))
  have mW := Lib.hid (fun V hb => regrown V (v := .int .i64 (x.wo : Int)) (fun W hW => (worst_any W s.g _ ((h1.below hb).below hW).c75).mono (by rintro e w' ⟨rfl, rfl⟩; exact ⟨rfl, Below.refl _ _⟩)))
  have mM := Lib.hid (fun V hb => regrown V (v := .int .i64 (advE c x)) (fun W hW => (may_h ((h1.below hb).below hW) j.j0).mono (by rintro e w' ⟨rfl, n, rfl⟩; exact ⟨rfl, below_drewN (Below.refl _ W) n⟩)))
  have rC := Lib.hid (fun V => regrown V (fun W _ => rconf_any W c x y))
  have rS := Lib.hid (fun V => regrown V (fun W _ => rsure_any W c x y j))
  have hT : advT c x ↔ c.ah ≤ (x.us.length : Int) - confH x := Iff.rfl
  have hE1 : advT c x → advE c x = 250 := fun h => if_pos h
  have hE2 : ¬ advT c x → advE c x = 0 := fun h => if_neg h
  have HB := Lib.hid hB
  clear hX hB h h1 j hcf ecf hk0 hk1 hun
  generalize dE c y x = E at *
  generalize x.us.length = l2 at *
  generalize confH x = cf at *
  generalize sureH x = su at *
  generalize x.ro = ro at *
  generalize x.re = re at *
  generalize x.wo = wo at *
  generalize advE c x = ae at *
  generalize s.g = g at *
  obtain ⟨q2, q7, q9, q10, q11, hcr⟩ := hAll.out W1 (Below.refl _ _)
  have cF := mF.out W1 (Below.refl _ _)
  have cC := mC.out W1 (Below.refl _ _)
  have cS := mS.out W1 (Below.refl _ _)
  have cR := mR.out W1 (Below.refl _ _)
  have cE := mE.out W1 (Below.refl _ _)
  have cW := mW.out W1 (Below.refl _ _)
  have eC := rC.out W1
  have eS := rS.out W1
  go_enter Tryz.func23, Tryz.ntmps23
  go_upto_region 1 with fail
  rw [← hW1]
  clear hW1
  refine wp_region_quiet_below (by kernel_rfl) (by kernel_rfl) ?_
  repeat (quiet_step (first | exact cF _ _ | exact cC _ _ | exact cS _ _ | exact cR _ _ | exact cE _ _ | exact cW _ _ | exact eC _ _ | exact eS _ _))
  refine wpQuiet_nil ?_
  intro W2 hw'
  obtain ⟨⟨dq, osq⟩, hw''⟩ := hw'
  have hb2 : Below W1.heap.size W1 W2 := by rw [hw'']; exact below_regrown _ _ _
  clear hw'' cF cC cS cR cE cW eC eS q2 q7 q9 q10 q11 hcr
  obtain ⟨q2, q7, q9, q10, q11, hcr⟩ := hAll.out W2 hb2
  have cC := mM.out W2 hb2
  have eC := rC.out W2
  have HB2 := Lib.hid (HB.out.trans (hb2.mono HB.out.size))
  clear hb2 hAll mF mC mS mR mE mW mM rC rS HB q9 q10 q11
  by_cases hA : c.ah ≤ (l2 : Int) - cf
  · have e0 := hE1 (hT.2 hA)
    rw [e0] at cC
    have hA' : decide ((l2 : Int) - cf < c.ah) = false := by simp; omega
    clear hT hE1 hE2 e0
    go_upto_region 3 with fail
    refine wp_region_quiet_below (by kernel_rfl) (by kernel_rfl) ?_
    repeat (quiet_step (first | exact cC _ _ | exact eC _ _))
    refine wpQuiet_nil ?_
    intro W3 hw'
    obtain ⟨⟨dq, osq⟩, hw''⟩ := hw'
    have HB3 := Lib.hid (HB2.out.trans ((show Below W2.heap.size W2 W3 from by rw [hw'']; exact below_regrown _ _ _).mono HB2.out.size))
    clear hw'' cC eC q2 q7 hcr
    go_wp2_with fail
    go_ret
    exact ⟨by simp [hA'], HB3.out⟩
  · have e0 := hE2 (fun h => hA (hT.1 h))
    rw [e0] at cC
    have hA' : decide ((l2 : Int) - cf < c.ah) = true := by simp; omega
    clear hT hE1 hE2 e0
    go_upto_region 3 with fail
    refine wp_region_quiet_below (by kernel_rfl) (by kernel_rfl) ?_
    repeat (quiet_step (first | exact cC _ _ | exact eC _ _))
    refine wpQuiet_nil ?_
    intro W3 hw'
    obtain ⟨⟨dq, osq⟩, hw''⟩ := hw'
    have HB3 := Lib.hid (HB2.out.trans ((show Below W2.heap.size W2 W3 from by rw [hw'']; exact below_regrown _ _ _).mono HB2.out.size))
    clear hw'' cC eC q2 q7 hcr
    go_wp2_with fail
    go_ret
    exact ⟨by simp [hA'], HB3.out⟩
end
end Go.Proofs.YtckkpgopddnkiaaGreat.Rl
