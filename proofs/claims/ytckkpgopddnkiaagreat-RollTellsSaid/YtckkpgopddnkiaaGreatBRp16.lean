/-
  Texts joined: RdC, RdD, RdE. No condition.
-/
import Derived.Test.YtckkpgopddnkiaaGreatBRp15
namespace Go.Proofs.YtckkpgopddnkiaaGreat.Rl
open Go.RowKit Go.Sort Go.Shelf Go.Proofs.YtckkpgopddnkiaaGreat.Gm Go.Proofs.YtckkpgopddnkiaaGreat.RingE Go.Proofs.YtckkpgopddnkiaaGreat.Inputq
set_option linter.all false

theorem inA_take (ls : List (Nat × Nat)) {n j : Nat} (h : j < n) : inA (ls.take n) j = inA ls j := by
  funext i
  unfold inA
  rw [List.getD_eq_getElem?_getD, List.getElem?_take, if_pos h, List.getD_eq_getElem?_getD]
theorem playF_take (f : F) (ls : List (Nat × Nat)) (n : Nat) : ∀ k, k ≤ n → playF f (ls.take n) k = playF f ls k
  | 0, _ => rfl
  | k + 1, h => by
    show stepF (playF f (ls.take n) k) (inA (ls.take n) k) = stepF (playF f ls k) (inA ls k)
    rw [playF_take f ls n k (by omega), inA_take ls (by omega)]
theorem inRow_take {w : World} {a : Option Addr} {ls : List (Nat × Nat)} (h : InRow w a ls) (n : Nat) : InRow w a (ls.take n) :=
  ⟨fun x hx => h.1 x (List.mem_of_mem_take hx), fun hp => by
    rw [List.length_take] at hp
    obtain ⟨b, off, e, h1, h2⟩ := h.2 (by omega)
    exact ⟨b, off, e, h1, fun j hj => by
      rw [List.length_take] at hj
      rw [inA_take ls (by omega)]
      exact h2 j (by omega)⟩⟩
theorem storeR33d {w : World} {g : Nat} {t : TypeId} {old cells : Array Value} {f : F} (hg : Blk w g t old) (LC : Let cells f) (ho : old.size = 66) :
    ∃ w', storeR Tryz.prog 47 (.pointer (some ⟨g, 0, none⟩)) (.agg cells) w = .ok .skip w' ∧ Blk w' g t cells ∧ Touch (fun k => k = g) w w' := by
  refine ⟨w.setRow g cells, ?_, Blk.setRow hg cells, touch_setRow w g cells⟩
  unfold storeR
  simp only [Instr.storeAt, Instr.sureAddr, Sem.run_bind, Sem.run_pure, Result.andThen_ok, run_storeVar_row w g t 47 old cells hg LC.info (by rw [ho, LC.size]) LC.one]
/-- The used pairs are inputs. -/
theorem us_inb {c : Cfg} {x : H} (hu : ∀ p ∈ x.us, p.1 < 65536 ∧ p.2 < 65536) : InB x.us := hu

section
attribute [local go_sem ↓] exec33 exec_st33
attribute [local go_sem] loadR_at cellsAt_drew
set_option maxRecDepth 100000 in
set_option maxHeartbeats 4000000 in
theorem rstate_any (w : World) (c : Cfg) (x : H) (y : DV) (h : Doc w y x) (j : J c x) (hib : InB x.us) (n : Nat) (hn : n ≤ x.us.length) :
    Calls Tryz.prog 11 #[.agg (dE c y x), .int .i64 (n : Int)] w fun e w' => ∃ C, Let C (pl c.sd x.us n) ∧ e = .returned (.agg C) ∧ Below w.heap.size w w' := by
  obtain ⟨W1, hW1⟩ : ∃ W1, W1 = (w.alloc (.cells (dE c y x) 35)).alloc (.cells Tryz.zeroCells47 47) := ⟨_, rfl⟩
  have hX : Blk W1 w.heap.size 35 (dE c y x) := by rw [hW1]; exact (Blk.new w _ _).alloc _
  have hR : Blk W1 (w.heap.size + 1) 47 Tryz.zeroCells47 := by
    rw [hW1]
    have := Blk.new (w.alloc (.cells (dE c y x) 35)) 47 Tryz.zeroCells47
    simpa using this
  have hB : Below w.heap.size w W1 := by rw [hW1]; exact ((Below.refl _ w).alloc (Nat.le_refl _) _).alloc (by simp) _
  have hzs : Tryz.zeroCells47.size = 66 := by rw [← stA_zero]; exact stA_size _
  have hun := j.un
  obtain ⟨C, LC⟩ := let_of (newF (c.sd : Int))
  have hsd := j.sd
  have hI := Inv.new (c.sd : Int) (by omega) (by omega)
  have hr := ls_row h.us hib
  obtain ⟨l, hll⟩ : ∃ l, x.us.length = l := ⟨_, rfl⟩
  have hcap : l ≤ y.cu ∧ y.cu ≤ maxLen ∧ (y.au = none → y.cu = 0) := by
    rcases h.us.form with ⟨e, h0, _⟩ | ⟨g, cap, e, h1, h2, _⟩
    · injection e with e1 e2 e3; exact ⟨by omega, by rw [e3]; simp [maxLen], fun _ => e3⟩
    · injection e with e1 e2 e3; exact ⟨by omega, by rw [e3]; exact h2, fun e => by rw [e1] at e; cases e⟩
  have pN' : ∀ W, Calls Tryz.prog 21 #[.int .u32 (c.sd : Int)] W fun e w' => e = .returned (.agg C) ∧ Below W.heap.size W w' := fun W => by
    have := rnew_any W (c.sd : Int) (by omega) (by omega)
    unfold stV at this
    rw [← LC.eq] at this
    exact this
  have pP' : ∀ W, InRow W y.au x.us → Calls Tryz.prog 28 #[.agg C, .slice y.au n y.cu] W fun e w' => ∃ D, Let D (pl c.sd x.us n) ∧ e = .returned (.agg D) ∧ Below W.heap.size W w' := fun W h => by
    have hlen : (x.us.take n).length = n := by rw [List.length_take]; omega
    have := rplay_any W C (newF (c.sd : Int)) 0 0 y.au y.cu (x.us.take n) LC (inRow_take h n) hI (by rw [hlen]; omega) (by omega) (by omega) (by omega)
    rw [hlen, playF_take _ _ _ _ (Nat.le_refl _)] at this
    exact this
  have pN := Lib.hid pN'
  have pP := Lib.hid pP'
  obtain ⟨d0, d1, d2, d3, d4, d5, d6, d7, d8, d9, d10, d11⟩ := dE_cells hX
  rw [hll] at d7
  have x0 : W1.drew.cell? ⟨w.heap.size, 0, none⟩ = some (.int .u32 (c.sd : Int)) := d0
  have x7 : W1.drew.cell? ⟨w.heap.size, 7, none⟩ = some (.slice y.au l y.cu) := d7
  have HX := Lib.hid (show ∀ W, Blk W w.heap.size 35 (dE c y x) → W.cell? ⟨w.heap.size, 0, none⟩ = some (.int .u32 (c.sd : Int)) ∧ W.cell? ⟨w.heap.size, 7, none⟩ = some (.slice y.au l y.cu) from fun W hb => by
    obtain ⟨d0, d1, d2, d3, d4, d5, d6, d7, -⟩ := dE_cells hb
    rw [hll] at d7
    exact ⟨d0, d7⟩)
  have HX1 := Lib.hid hX
  have HRES := Lib.hid hR
  have HB := Lib.hid hB
  have HROW := Lib.hid (show ∀ W, Below w.heap.size w W → InRow W y.au x.us from fun W hb => hr.below hb)
  have hbd : Below W1.heap.size W1 W1.drew := (Below.refl _ W1).drew
  have hz1 := hB.size
  have i0 : (0 : Int) ≤ (n : Int) := by omega
  have i1 : (n : Int) ≤ (l : Int) := by omega
  have i2 : (n : Int) ≤ (y.cu : Int) := by omega
  obtain ⟨hc1, hc2, hc3⟩ := hcap
  clear pN' pP' hX hR hB hr LC hI d0 d1 d2 d3 d4 d5 d6 d7 d8 d9 d10 d11
  have HDE : dE c y x = #[.int .u32 (c.sd : Int), .int .i64 (c.lo : Int), .int .i64 c.ah, .slice y.a0 (x.ks 0).length y.c0, .slice y.a1 (x.ks 1).length y.c1, .int .u16 (lstH x 0 : Int), .int .u16 (lstH x 1 : Int), .slice y.au l y.cu, .int .i64 (Rl.wrH x), .int .i64 (x.ro : Int), .int .i64 (x.re : Int), .int .i64 (x.wo : Int)] := by rw [← hll]; rfl
  have HDE2 := Lib.hid HDE
  rw [HDE] at hW1 ⊢
  clear HDE
  generalize (x.ks 0).length = l0 at *
  generalize (x.ks 1).length = l1 at *
  obtain ⟨au, hau⟩ : ∃ a, y.au = a := ⟨_, rfl⟩
  obtain ⟨cu, hcu⟩ : ∃ a, y.cu = a := ⟨_, rfl⟩
  rw [hau] at hc3
  rw [hau, hcu] at x7 hW1 pP HX ⊢
  rw [hau] at HROW
  rw [hcu] at i2 hc1 hc2 hc3
  clear hll hn hun hsd
  rcases au with _ | ad
  · obtain rfl : cu = 0 := hc3 rfl
    obtain rfl : l = 0 := by omega
    obtain rfl : n = 0 := by omega
    clear i0 i1 i2 hc1 hc2 hc3
    go_enter Tryz.func11, Tryz.ntmps11
    go_upto_region 1 with fail
    rw [← hW1]
    clear hW1
    go_region_held3 (fun W => W.cell? ⟨w.heap.size, 0, none⟩ = some (.int .u32 (c.sd : Int)) ∧ W.cell? ⟨w.heap.size, 7, none⟩ = some (.slice none 0 0)) (first | exact ⟨x0, x7⟩ | exact ⟨k0, k1⟩ | exact ⟨m0, m1⟩ | exact ⟨z0, z1⟩ | fail "no keep")
      (first
        | (go_at_call 21; (with_reducible refine (pN.out _).mono ?_); rintro e wA ⟨rfl, bA⟩; have BA := hbd.trans (bA.mono hbd.size); have hxa := HX1.out.below BA HX1.out.lt; obtain ⟨k0, k1⟩ := HX.out wA hxa)
        | (go_at_call 28; (with_reducible refine (pP.out _ (HROW.out _ (HB.out.trans (BA.mono hz1)))).mono ?_); rintro e wB ⟨D, LD, rfl, bB⟩; have BB := BA.trans (bB.mono BA.size); have hxb := HX1.out.below BB HX1.out.lt; obtain ⟨m0, m1⟩ := HX.out wB hxb; have hDif := LD.info; obtain ⟨W9, hst, hd9, ht9⟩ := storeR33d (HRES.out.below BB HRES.out.lt) LD hzs; have hx9 := hxb.touch ht9 (by omega); obtain ⟨z0, z1⟩ := HX.out W9 hx9)
        | fail "no arm")
    all_goals
      go_wp2_with fail
      refine bodyPost_ret (v := .agg D) (results_blk Tryz.results11 _ _ (w.heap.size + 1) _ _ _ (by rfl) hd9 Tryz.underlying47 (by rfl) hDif) rfl ⟨D, LD, rfl, ?_⟩
      exact (HB.out.trans (BB.mono hz1)).trans (ht9.below (HB.out.trans (BB.mono hz1)).size (fun k hk => by omega))
  · clear hc1 hc2 hc3
    go_enter Tryz.func11, Tryz.ntmps11
    go_upto_region 1 with fail
    rw [← hW1]
    clear hW1
    go_region_held3 (fun W => W.cell? ⟨w.heap.size, 0, none⟩ = some (.int .u32 (c.sd : Int)) ∧ W.cell? ⟨w.heap.size, 7, none⟩ = some (.slice (some ad) l cu)) (first | exact ⟨x0, x7⟩ | exact ⟨k0, k1⟩ | exact ⟨m0, m1⟩ | exact ⟨z0, z1⟩ | fail "no keep")
      (first
        | (go_at_call 21; (with_reducible refine (pN.out _).mono ?_); rintro e wA ⟨rfl, bA⟩; have BA := hbd.trans (bA.mono hbd.size); have hxa := HX1.out.below BA HX1.out.lt; obtain ⟨k0, k1⟩ := HX.out wA hxa)
        | (go_at_call 28; (with_reducible refine (pP.out _ (HROW.out _ (HB.out.trans (BA.mono hz1)))).mono ?_); rintro e wB ⟨D, LD, rfl, bB⟩; have BB := BA.trans (bB.mono BA.size); have hxb := HX1.out.below BB HX1.out.lt; obtain ⟨m0, m1⟩ := HX.out wB hxb; have hDif := LD.info; obtain ⟨W9, hst, hd9, ht9⟩ := storeR33d (HRES.out.below BB HRES.out.lt) LD hzs; have hx9 := hxb.touch ht9 (by omega); obtain ⟨z0, z1⟩ := HX.out W9 hx9)
        | fail "no arm")
    all_goals
      go_wp2_with fail
      refine bodyPost_ret (v := .agg D) (results_blk Tryz.results11 _ _ (w.heap.size + 1) _ _ _ (by rfl) hd9 Tryz.underlying47 (by rfl) hDif) rfl ⟨D, LD, rfl, ?_⟩
      exact (HB.out.trans (BB.mono hz1)).trans (ht9.below (HB.out.trans (BB.mono hz1)).size (fun k hk => by omega))
end
end Go.Proofs.YtckkpgopddnkiaaGreat.Rl
namespace Go.Proofs.YtckkpgopddnkiaaGreat.Rl
open Go.RowKit Go.Sort Go.Shelf Go.Proofs.YtckkpgopddnkiaaGreat.Gm Go.Proofs.YtckkpgopddnkiaaGreat.RingE Go.Proofs.YtckkpgopddnkiaaGreat.Inputq
set_option linter.all false

/-- What a call of the document leaves. -/
def DNew (w w' : World) (y y' : DV) : Prop := Below w.heap.size w w' ∧ ∀ k, y'.own k → y.own k ∨ w.heap.size ≤ k
theorem infoE : (Tryz.prog.info? 35).map (·.size) = some 12 := by kernel_rfl
theorem dE_size (c : Cfg) (y : DV) (x : H) : (dE c y x).size = 12 := rfl
theorem dE_info (c : Cfg) (y : DV) (x : H) : (Tryz.prog.info? 35).map (·.size) = some (dE c y x).size := infoE
theorem dE_one (c : Cfg) (y : DV) (x : H) : (dE c y x).all (·.oneCell') = true := by simp [dE, Value.oneCell']
theorem one_set {E : Array Value} (h : E.all (·.oneCell') = true) (i : Nat) (v : Value) (hv : v.oneCell' = true) : (E.setIfInBounds i v).all (·.oneCell') = true := by
  rw [Array.all_eq_true] at h ⊢
  intro j hj
  rw [Array.getElem_setIfInBounds (by simpa using hj)]
  split
  · exact hv
  · exact h j (by simpa using hj)
def zE : Array Value := #[.int .u32 0, .int .i64 0, .int .i64 0, .slice none 0 0, .slice none 0 0, .int .u16 0, .int .u16 0, .slice none 0 0, .int .i64 0, .int .i64 0, .int .i64 0, .int .i64 0]
theorem zE_size : zE.size = 12 := rfl
theorem ks_at (x : H) (i v : Nat) : (addH x i v).ks i = x.ks i ++ [v] := by show upd x.ks i (x.ks i ++ [v]) i = _; exact upd_at _ _ _
theorem ks_ne (x : H) (v : Nat) {i k : Nat} (h : ¬ k = i) : (addH x i v).ks k = x.ks k := by show upd x.ks i (x.ks i ++ [v]) k = _; exact upd_ne _ _ h
theorem src_blk1 {w : World} {g : Nat} {t : TypeId} {cs : List Value} (h : Blk w g t cs.toArray) (n : Nat) : Src w (some ⟨g, 0, none⟩) n cs := by
  refine .inr ⟨_, rfl, fun j u hu => ?_⟩
  have hadd : (⟨g, 0, none⟩ : Addr).add j = ⟨g, j, none⟩ := by unfold Addr.add; split <;> simp_all
  rw [hadd, h.cell j]
  simpa using hu
theorem below_grown {B : Nat} {w V w1 : World} {row : Option Nat} (h : Below B w V) (hg : V.grownBy w1 row) (hr : ∀ g, row = some g → B ≤ g) (hB : B ≤ V.heap.size) : Below B w w1 := h.grown hg hB (fun k e => hr k e)
/-- A list copied, and lengthened by one. -/
theorem twiceU (W : World) (a : Option Addr) (l c : Nat) (ks : List Nat) (hll : ks.length = l) (hon : On W 31 1 (.slice a l c) l (u16s ks)) (v : Nat) (hl : l ≤ 1000) :
    ∃ a1 c1 w1 a2 c2 w2, (appI #[28, 28] 28 #[.slice (some ⟨W.heap.size, 0, none⟩) 0 0, .slice a l c]).run Tryz.prog (W.alloc (.cells #[] 31)) = .ok (.slice a1 l c1) w1 ∧
      (appI #[28, 28] 28 #[.slice a1 l c1, .slice (some ⟨w1.heap.size, 0, none⟩) 1 1]).run Tryz.prog (w1.alloc (.cells #[.int .u16 (v : Int)] 31)) = .ok (.slice a2 (l + 1) c2) w2 ∧
      On w2 31 1 (.slice a2 (l + 1) c2) (l + 1) (u16s (ks ++ [v])) ∧ Below W.heap.size W w2 ∧ (∀ g, Value.ownBlock (.slice a2 (l + 1) c2) = some g → W.heap.size ≤ g) := by
  obtain ⟨i0, hi, hz0, hz1, hz2⟩ := info_parts RingInput.info
  subst hll
  have hb : Below W.heap.size W (W.alloc (.cells #[] 31)) := (Below.refl _ W).alloc (Nat.le_refl _) _
  obtain ⟨v1, w1, hrun, hon1, hg1, hv1⟩ := run_append_on (P := Tryz.prog) (W.alloc (.cells #[] 31)) 28 28 31 i0 _ 1 2 Tryz.underlying28 hi hz0 hz1 hz2 rfl (by omega)
    (.slice (some ⟨W.heap.size, 0, none⟩) 0 0) 0 [] (On.empty W _ _) a ks.length c (u16s ks) (by rw [u16s_len]; omega) ((hon.alloc _).src) (fun u hu => by obtain ⟨z, -, rfl⟩ := List.mem_map.1 hu; rfl) (by simp only [maxLen]; omega) (by omega)
  rw [Nat.zero_add, List.nil_append] at hon1
  obtain ⟨a1, c1, rfl, _, _⟩ := hon1.slice
  have own1 : ∀ g, Value.ownBlock (.slice a1 ks.length c1) = some g → W.heap.size ≤ g := fun g hg => by
    rcases hv1 with e | e
    · rw [e] at hg; simp [Value.ownBlock] at hg; omega
    · rw [e] at hg; cases hg; exact hb.size
  have b1 := below_grown hb hg1 (fun g e => by cases e; exact Nat.le_refl _) hb.size
  obtain ⟨a2, c2, w2, hrun2, hon2, hg2, hv2⟩ := app_one (w1.alloc (.cells #[.int .u16 (v : Int)] 31)) (.slice a1 ks.length c1) ks w1.heap.size v (hon1.alloc _) (Blk.new _ _ _) hl
  have b2 := below_grown (b1.alloc b1.size (.cells #[.int .u16 (v : Int)] 31)) hg2 own1 (b1.alloc b1.size _).size
  refine ⟨a1, c1, w1, a2, c2, w2, hrun, hrun2, ?_, b2, fun g hg => ?_⟩
  · rw [List.length_append, List.length_singleton] at hon2; exact hon2
  · rcases hv2 g hg with e | e
    · exact own1 g e
    · rw [e]; exact (b1.alloc b1.size _).size
def DV.put (y : DV) (i : Nat) (a : Option Addr) (c : Nat) : DV := if i = 0 then { y with a0 := a, c0 := c } else { y with a1 := a, c1 := c }
theorem dE_add0 (c : Cfg) (y : DV) (x : H) (v : Nat) (a : Option Addr) (cc : Nat) : dE c (y.put 0 a cc) (addH x 0 v) = (((dE c y x).setIfInBounds 3 (.slice a ((x.ks 0).length + 1) cc)).setIfInBounds 5 (.int .u16 (v : Int))).setIfInBounds 8 (.int .i64 (Rl.wrH (addH x 0 v))) := by
  have e0 : ((addH x 0 v).ks 0).length = (x.ks 0).length + 1 := by show (upd x.ks 0 (x.ks 0 ++ [v]) 0).length = _; rw [upd_at]; simp
  have e1 : (addH x 0 v).ks 1 = x.ks 1 := ks_ne x v (by omega)
  have e2 : lstH (addH x 0 v) 0 = v := by rw [lst_add]; rfl
  have e3 : lstH (addH x 0 v) 1 = lstH x 1 := by rw [lst_add]; rfl
  unfold dE
  rw [e0, e1, e2, e3]
  rfl
theorem dE_add1 (c : Cfg) (y : DV) (x : H) (v : Nat) (a : Option Addr) (cc : Nat) : dE c (y.put 1 a cc) (addH x 1 v) = (((dE c y x).setIfInBounds 4 (.slice a ((x.ks 1).length + 1) cc)).setIfInBounds 6 (.int .u16 (v : Int))).setIfInBounds 8 (.int .i64 (Rl.wrH (addH x 1 v))) := by
  have e0 : ((addH x 1 v).ks 1).length = (x.ks 1).length + 1 := by show (upd x.ks 1 (x.ks 1 ++ [v]) 1).length = _; rw [upd_at]; simp
  have e1 : (addH x 1 v).ks 0 = x.ks 0 := ks_ne x v (by omega)
  have e2 : lstH (addH x 1 v) 1 = v := by rw [lst_add]; rfl
  have e3 : lstH (addH x 1 v) 0 = lstH x 0 := by rw [lst_add]; rfl
  unfold dE
  rw [e0, e1, e2, e3]
  rfl
theorem set8_same (c : Cfg) (y : DV) (x : H) (i : Nat) (hi : i = 0 ∨ i = 1) (u u' : Value) : (((dE c y x).setIfInBounds (3 + i) u).setIfInBounds (5 + i) u').setIfInBounds 8 (.int .i64 (Rl.wrH x)) = ((dE c y x).setIfInBounds (3 + i) u).setIfInBounds (5 + i) u' := by
  rcases hi with rfl | rfl
  · rfl
  · rfl
theorem Doc.add {w w' : World} {y : DV} {x : H} (h : Doc w y x) (hb : Below w.heap.size w w') {i : Nat} (hi : i < 2) {v : Nat} {a2 : Option Addr} {c2 : Nat} (hon : On w' 31 1 (.slice a2 ((x.ks i).length + 1) c2) ((x.ks i).length + 1) (u16s (x.ks i ++ [v]))) (ho : ∀ g, Value.ownBlock (.slice a2 ((x.ks i).length + 1) c2) = some g → w.heap.size ≤ g) :
    Doc w' (y.put i a2 c2) (addH x i v) ∧ DNew w w' y (y.put i a2 c2) := by
  have h' := h.below hb
  obtain rfl | rfl : i = 0 ∨ i = 1 := by omega
  · have e0 : (addH x 0 v).ks 0 = x.ks 0 ++ [v] := ks_at x 0 v
    have e1 : (addH x 0 v).ks 1 = x.ks 1 := ks_ne x v (by omega)
    refine ⟨⟨?_, ?_, h'.us⟩, hb, fun k hk => ?_⟩
    · rw [e0, List.length_append, List.length_singleton]; exact hon
    · rw [e1]; exact h'.k1
    · rcases hk with hk | hk | hk
      · exact .inr (ho k (own_to hk))
      · exact .inl (.inr (.inl hk))
      · exact .inl (.inr (.inr hk))
  · have e0 : (addH x 1 v).ks 1 = x.ks 1 ++ [v] := ks_at x 1 v
    have e1 : (addH x 1 v).ks 0 = x.ks 0 := ks_ne x v (by omega)
    refine ⟨⟨?_, ?_, h'.us⟩, hb, fun k hk => ?_⟩
    · rw [e1]; exact h'.k0
    · rw [e0, List.length_append, List.length_singleton]; exact hon
    · rcases hk with hk | hk | hk
      · exact .inl (.inl hk)
      · exact .inr (ho k (own_to hk))
      · exact .inl (.inr (.inr hk))
section
attribute [local go_sem ↓] append_I
set_option maxRecDepth 100000 in
set_option maxHeartbeats 8000000 in
theorem add0_any (w : World) (c : Cfg) (x : H) (y : DV) (v : Nat) (h : Doc w y x) (j : J c x) :
    Calls Tryz.prog 72 #[.agg (dE c y x), .int .i64 0, .int .u16 (v : Int)] w fun e w' => ∃ y', e = .returned (.agg (dE c y' (addH x 0 v))) ∧ Doc w' y' (addH x 0 v) ∧ DNew w w' y y' := by
  obtain ⟨Z, hZ⟩ : ∃ Z, zE = Z := ⟨_, rfl⟩
  have hZs : Z.size = 12 := by rw [← hZ]; exact zE_size
  obtain ⟨W1, hW1⟩ : ∃ W1, W1 = (w.alloc (.cells (dE c y x) 35)).alloc (.cells Z 35) := ⟨_, rfl⟩
  have hX : Blk W1 w.heap.size 35 (dE c y x) := by rw [hW1]; exact (Blk.new w _ _).alloc _
  have hR : Blk W1 (w.heap.size + 1) 35 Z := by
    rw [hW1]
    have := Blk.new (w.alloc (.cells (dE c y x) 35)) 35 Z
    simpa using this
  have hB : Below w.heap.size w W1 := by rw [hW1]; exact ((Below.refl _ w).alloc (Nat.le_refl _) _).alloc (by simp) _
  have hk := j.kn 0 (by omega)
  have hun := j.un
  have hD1 := h.below hB
  obtain ⟨l, hll⟩ : ∃ l, (x.ks 0).length = l := ⟨_, rfl⟩
  obtain ⟨l2, hl2⟩ : ∃ l, x.us.length = l := ⟨_, rfl⟩
  obtain ⟨a1, c1, w1, a2, c2, w2, hr1, hr2, hon2, b2, how2⟩ := twiceU W1 y.a0 l y.c0 (x.ks 0) hll (by rw [← hll]; exact hD1.k0) v (by omega)
  have hX2 := hX.below b2 hX.lt
  have hR2 := hR.below b2 hR.lt
  have hWA := wrH_add j (i := 0) (by omega) v
  rw [hll, hl2] at hWA
  have fin := dE_add0 c y x v a2 c2
  rw [hll] at fin
  have hnB : Value.ownBlock (.slice a2 (l + 1) c2) ≠ some w.heap.size := fun e => by have := how2 _ e; have := hX.lt; omega
  have hnR : Value.ownBlock (.slice a2 (l + 1) c2) ≠ some (w.heap.size + 1) := fun e => by have := how2 _ e; have := hR.lt; omega
  obtain ⟨V, hV⟩ : ∃ V, V = (w2.setCell ⟨w.heap.size, 3, none⟩ (.slice a2 (l + 1) c2)).setCell ⟨w.heap.size, 5, none⟩ (.int .u16 (v : Int)) := ⟨_, rfl⟩
  have hBV : Blk V w.heap.size 35 (((dE c y x).setIfInBounds 3 (.slice a2 (l + 1) c2)).setIfInBounds 5 (.int .u16 (v : Int))) := by rw [hV]; exact Blk.set_ (Blk.set_ hX2 3 _) 5 _
  have hRV : Blk V (w.heap.size + 1) 35 Z := by rw [hV]; exact (hR2.far (by simp) _).far (by simp) _
  have hOV : On V 31 1 (.slice a2 (l + 1) c2) (l + 1) (u16s (x.ks 0 ++ [v])) := by rw [hV]; exact (hon2.far (fun e => hnB e) _).far (fun e => hnB e) _
  have b2' : Below w.heap.size w w2 := hB.trans (b2.mono hB.size)
  have bV : Below w.heap.size w V := by rw [hV]; exact (b2'.setCell (Nat.le_refl _) _).setCell (Nat.le_refl _) _
  have HU : l < l2 → ∃ gu, y.au = some ⟨gu, 0, none⟩ ∧ V.cell? ⟨gu, l * 2, none⟩ = some (.int .u16 (((col 0 x.us).getD l 0 : Nat) : Int)) ∧ V.cell? ⟨gu, l * 2 + 1, none⟩ = some (.int .u16 (((col 1 x.us).getD l 0 : Nat) : Int)) := fun hlt => by
    obtain ⟨gu, e, -, e0, e1⟩ := (h.below bV).atU (f := l) (by omega)
    exact ⟨gu, e, e0, e1⟩
  have HFIN := Lib.hid (show ∀ W E, On W 31 1 (.slice a2 (l + 1) c2) (l + 1) (u16s (x.ks 0 ++ [v])) → Below w.heap.size w W → dE c (y.put 0 a2 c2) (addH x 0 v) = E → ∃ y', Ending.returned (.agg E) = .returned (.agg (dE c y' (addH x 0 v))) ∧ Doc W y' (addH x 0 v) ∧ DNew w W y y' from fun W E ho hb hE => by
    subst hE
    subst hll
    exact ⟨_, rfl, h.add hb (by omega) ho (fun g hg => Nat.le_trans hB.size (how2 g hg))⟩)
  obtain ⟨E1, hE1⟩ : ∃ E1, ((dE c y x).setIfInBounds 3 (.slice a2 (l + 1) c2)).setIfInBounds 5 (.int .u16 (v : Int)) = E1 := ⟨_, rfl⟩
  have v7 : V.cell? ⟨w.heap.size, 7, none⟩ = some (.slice y.au l2 y.cu) := by rw [← hl2]; exact hBV.cell 7
  have v8 : V.cell? ⟨w.heap.size, 8, none⟩ = some (.int .i64 (Rl.wrH x)) := hBV.cell 8
  have f8 := hBV.frozen 8
  have q3 : W1.cell? ⟨w.heap.size, 3, none⟩ = some (.slice y.a0 l y.c0) := by rw [← hll]; exact hX.cell 3
  have q3' : (W1.alloc (.cells #[] 31)).cell? ⟨w.heap.size, 3, none⟩ = some (.slice y.a0 l y.c0) := by rw [← hll]; exact (hX.alloc _).cell 3
  have f3 := hX2.frozen 3
  have hX3 := Blk.set_ hX2 3 (.slice a2 (l + 1) c2)
  have f5 := hX3.frozen 5
  have u3 := hX2.cell 3
  have u5 := hX3.cell 5
  have hs1 : E1.size = 12 := by rw [← hE1]; rfl
  have ho1 : E1.all (·.oneCell') = true := by rw [← hE1]; exact one_set (one_set (dE_one c y x) _ _ rfl) _ _ rfl
  have hi1 : (Tryz.prog.info? 35).map (·.size) = some E1.size := by rw [hs1]; exact infoE
  have hzs1 : Z.size = E1.size := by rw [hs1, hZs]
  have s8 := set8_same c y x 0 (by omega) (.slice a2 (l + 1) c2) (.int .u16 (v : Int))
  have HS8 := Lib.hid (show E1.setIfInBounds 8 (.int .i64 (Rl.wrH x)) = E1 by rw [← hE1]; exact s8)
  rw [hE1] at hBV fin
  have HWA := Lib.hid hWA
  have HF := Lib.hid fin
  have HBV := Lib.hid hBV
  have HRV := Lib.hid hRV
  have HOV := Lib.hid hOV
  have HBE := Lib.hid bV
  have hlt0 := hX.lt
  have hz2 := b2'.size
  have hnBh := Lib.hid hnB
  have hnRh := Lib.hid hnR
  have u3' : w2.cell? ⟨w.heap.size, 3, none⟩ = some (.slice y.a0 l y.c0) := by rw [← hll]; exact u3
  have u5' : (w2.setCell ⟨w.heap.size, 3, none⟩ (.slice a2 (l + 1) c2)).cell? ⟨w.heap.size, 5, none⟩ = some (.int .u16 (lstH x 0 : Int)) := u5
  clear hX hR hB hD1 hon2 b2 how2 hX2 hR2 hWA fin hnB hnR hRV hOV b2' bV hE1 s8 hX3 u3 u5 hBV h j hll hl2
  generalize (col 0 x.us).getD l 0 = p0 at *
  generalize (col 1 x.us).getD l 0 = p1 at *
  generalize Rl.wrH x = wr at *
  generalize dE c y x = E at *
  by_cases g1 : l < l2
  · obtain ⟨gu, hgu, cu0, cu1⟩ := HU g1
    clear HU
    rw [hgu] at v7
    have g1' : (l : Int) < (l2 : Int) := by omega
    have l0' : (0 : Int) ≤ (l : Int) := by omega
    by_cases g2 : p0 = v
    · have EW := Lib.hid (HWA.out.trans (if_neg (fun h => h.2.1 g2)))
      have g2' : ((p0 : Int) == (v : Int)) = true := by simp [g2]
      have g2'' : ((p0 : Int) != (v : Int)) = false := by simp [g2]
      go_enter Tryz.func72, Tryz.ntmps72
      go_upto_region 1 with fail
      rw [← hZ] at hW1
      unfold zE at hW1
      rw [← hW1]
      clear hW1
      go_upto_region 2 with fail
      go_upto_region 4 with fail
      rw [← hV]
      clear hV hr1 hr2 q3 q3' f3 f5 u3' u5' 
      go_upto_region 6 with fail
      have HBL := HBV.out
      have HRL := HRV.out
      go_wp2_with (first | (refine wpList_load_blk (by rfl) 35 _ (by rfl) w.heap.size (by rfl) _ E1 _ HBL Tryz.underlying35 (by rfl) hi1 ?_) | (refine wpList_store_blk (by rfl) 35 _ _ (by rfl) (w.heap.size + 1) E1 (by rfl) (by rfl) _ Z HRL hi1 hzs1 ho1 ?_; intro W6 hd6 ht6) | fail)
      refine bodyPost_ret (v := .agg E1) (results_blk Tryz.results72 _ _ (w.heap.size + 1) _ _ _ (by rfl) hd6 Tryz.underlying35 (by rfl) hi1) rfl ?_
      exact HFIN.out W6 E1 (HOV.out.touch ht6 (fun k hk e => hnRh.out (e ▸ hk))) (HBE.out.trans (ht6.below HBE.out.size (fun k hk => by omega))) (HF.out.trans ((congrArg (fun z => E1.setIfInBounds 8 (.int .i64 z)) EW.out).trans HS8.out))
    · have g2' : ((p0 : Int) == (v : Int)) = false := beq_eq_false_iff_ne.mpr (by omega)
      have g2'' : ((p0 : Int) != (v : Int)) = true := bne_iff_ne.mpr (by omega)
      by_cases g3 : wr < 0
      · have EW := Lib.hid (HWA.out.trans (if_pos ⟨g1, g2, .inl g3⟩))
        clear g2
        go_enter Tryz.func72, Tryz.ntmps72
        go_upto_region 1 with fail
        rw [← hZ] at hW1
        unfold zE at hW1
        rw [← hW1]
        clear hW1
        go_upto_region 2 with fail
        go_upto_region 4 with fail
        rw [← hV]
        clear hV hr1 hr2 q3 q3' f3 f5 u3' u5' 
        have HBL := Blk.set_ HBV.out 8 (.int .i64 (l : Int))
        have HRL : Blk (V.setCell ⟨w.heap.size, 8, none⟩ (.int .i64 (l : Int))) (w.heap.size + 1) 35 Z := HRV.out.far (by simp) _
        have hs9 : (E1.setIfInBounds 8 (.int .i64 (l : Int))).size = 12 := by simpa using hs1
        have HOL := Lib.hid (HOV.out.far (p := ⟨w.heap.size, 8, none⟩) (fun e => hnBh.out e) (.int .i64 (l : Int)))
        have HBL2 := Lib.hid (HBE.out.setCell (p := ⟨w.heap.size, 8, none⟩) (Nat.le_refl _) (.int .i64 (l : Int)))
        have HE9 := Lib.hid (show dE c (y.put 0 a2 c2) (addH x 0 v) = E1.setIfInBounds 8 (.int .i64 (l : Int)) from HF.out.trans (congrArg (fun z => E1.setIfInBounds 8 (.int .i64 z)) EW.out))
        have ho9 : (E1.setIfInBounds 8 (.int .i64 (l : Int))).all (·.oneCell') = true := by rw [← HE9.out]; exact dE_one _ _ _
        have hi9 : (Tryz.prog.info? 35).map (·.size) = some (E1.setIfInBounds 8 (.int .i64 (l : Int))).size := by rw [hs9]; exact infoE
        have hzs9 : Z.size = (E1.setIfInBounds 8 (.int .i64 (l : Int))).size := by rw [hs9, hZs]
        generalize E1.setIfInBounds 8 (.int .i64 (l : Int)) = E9 at *
        go_upto_region 6 with fail
        go_wp2_with (first | (refine wpList_load_blk (by rfl) 35 _ (by rfl) w.heap.size (by rfl) _ E9 _ HBL Tryz.underlying35 (by rfl) hi9 ?_) | (refine wpList_store_blk (by rfl) 35 _ _ (by rfl) (w.heap.size + 1) E9 (by rfl) (by rfl) _ Z HRL hi9 hzs9 ho9 ?_; intro W6 hd6 ht6) | fail)
        refine bodyPost_ret (v := .agg E9) (results_blk Tryz.results72 _ _ (w.heap.size + 1) _ _ _ (by rfl) hd6 Tryz.underlying35 (by rfl) hi9) rfl ?_
        exact HFIN.out W6 E9 (HOL.out.touch ht6 (fun k hk e => hnRh.out (e ▸ hk))) (HBL2.out.trans (ht6.below HBL2.out.size (fun k hk => by omega))) HE9.out
      · by_cases g4 : (l : Int) < wr
        · have EW := Lib.hid (HWA.out.trans (if_pos ⟨g1, g2, .inr g4⟩))
          clear g2
          go_enter Tryz.func72, Tryz.ntmps72
          go_upto_region 1 with fail
          rw [← hZ] at hW1
          unfold zE at hW1
          rw [← hW1]
          clear hW1
          go_upto_region 2 with fail
          go_upto_region 4 with fail
          rw [← hV]
          clear hV hr1 hr2 q3 q3' f3 f5 u3' u5' 
          have HBL := Blk.set_ HBV.out 8 (.int .i64 (l : Int))
          have HRL : Blk (V.setCell ⟨w.heap.size, 8, none⟩ (.int .i64 (l : Int))) (w.heap.size + 1) 35 Z := HRV.out.far (by simp) _
          have hs9 : (E1.setIfInBounds 8 (.int .i64 (l : Int))).size = 12 := by simpa using hs1
          have HOL := Lib.hid (HOV.out.far (p := ⟨w.heap.size, 8, none⟩) (fun e => hnBh.out e) (.int .i64 (l : Int)))
          have HBL2 := Lib.hid (HBE.out.setCell (p := ⟨w.heap.size, 8, none⟩) (Nat.le_refl _) (.int .i64 (l : Int)))
          have HE9 := Lib.hid (show dE c (y.put 0 a2 c2) (addH x 0 v) = E1.setIfInBounds 8 (.int .i64 (l : Int)) from HF.out.trans (congrArg (fun z => E1.setIfInBounds 8 (.int .i64 z)) EW.out))
          have ho9 : (E1.setIfInBounds 8 (.int .i64 (l : Int))).all (·.oneCell') = true := by rw [← HE9.out]; exact dE_one _ _ _
          have hi9 : (Tryz.prog.info? 35).map (·.size) = some (E1.setIfInBounds 8 (.int .i64 (l : Int))).size := by rw [hs9]; exact infoE
          have hzs9 : Z.size = (E1.setIfInBounds 8 (.int .i64 (l : Int))).size := by rw [hs9, hZs]
          generalize E1.setIfInBounds 8 (.int .i64 (l : Int)) = E9 at *
          go_upto_region 6 with fail
          go_wp2_with (first | (refine wpList_load_blk (by rfl) 35 _ (by rfl) w.heap.size (by rfl) _ E9 _ HBL Tryz.underlying35 (by rfl) hi9 ?_) | (refine wpList_store_blk (by rfl) 35 _ _ (by rfl) (w.heap.size + 1) E9 (by rfl) (by rfl) _ Z HRL hi9 hzs9 ho9 ?_; intro W6 hd6 ht6) | fail)
          refine bodyPost_ret (v := .agg E9) (results_blk Tryz.results72 _ _ (w.heap.size + 1) _ _ _ (by rfl) hd6 Tryz.underlying35 (by rfl) hi9) rfl ?_
          exact HFIN.out W6 E9 (HOL.out.touch ht6 (fun k hk e => hnRh.out (e ▸ hk))) (HBL2.out.trans (ht6.below HBL2.out.size (fun k hk => by omega))) HE9.out
        · have EW := Lib.hid (HWA.out.trans (if_neg (fun h => h.2.2.elim g3 g4)))
          clear g2
          go_enter Tryz.func72, Tryz.ntmps72
          go_upto_region 1 with fail
          rw [← hZ] at hW1
          unfold zE at hW1
          rw [← hW1]
          clear hW1
          go_upto_region 2 with fail
          go_upto_region 4 with fail
          rw [← hV]
          clear hV hr1 hr2 q3 q3' f3 f5 u3' u5' 
          go_upto_region 6 with fail
          have HBL := HBV.out
          have HRL := HRV.out
          go_wp2_with (first | (refine wpList_load_blk (by rfl) 35 _ (by rfl) w.heap.size (by rfl) _ E1 _ HBL Tryz.underlying35 (by rfl) hi1 ?_) | (refine wpList_store_blk (by rfl) 35 _ _ (by rfl) (w.heap.size + 1) E1 (by rfl) (by rfl) _ Z HRL hi1 hzs1 ho1 ?_; intro W6 hd6 ht6) | fail)
          refine bodyPost_ret (v := .agg E1) (results_blk Tryz.results72 _ _ (w.heap.size + 1) _ _ _ (by rfl) hd6 Tryz.underlying35 (by rfl) hi1) rfl ?_
          exact HFIN.out W6 E1 (HOV.out.touch ht6 (fun k hk e => hnRh.out (e ▸ hk))) (HBE.out.trans (ht6.below HBE.out.size (fun k hk => by omega))) (HF.out.trans ((congrArg (fun z => E1.setIfInBounds 8 (.int .i64 z)) EW.out).trans HS8.out))
  · have EW := Lib.hid (HWA.out.trans (if_neg (fun h => g1 h.1)))
    have g1' : ¬ (l : Int) < (l2 : Int) := by omega
    clear HU
    go_enter Tryz.func72, Tryz.ntmps72
    go_upto_region 1 with fail
    rw [← hZ] at hW1
    unfold zE at hW1
    rw [← hW1]
    clear hW1
    go_upto_region 2 with fail
    go_upto_region 4 with fail
    rw [← hV]
    clear hV hr1 hr2 q3 q3' f3 f5 u3' u5' 
    go_upto_region 6 with fail
    have HBL := HBV.out
    have HRL := HRV.out
    go_wp2_with (first | (refine wpList_load_blk (by rfl) 35 _ (by rfl) w.heap.size (by rfl) _ E1 _ HBL Tryz.underlying35 (by rfl) hi1 ?_) | (refine wpList_store_blk (by rfl) 35 _ _ (by rfl) (w.heap.size + 1) E1 (by rfl) (by rfl) _ Z HRL hi1 hzs1 ho1 ?_; intro W6 hd6 ht6) | fail)
    refine bodyPost_ret (v := .agg E1) (results_blk Tryz.results72 _ _ (w.heap.size + 1) _ _ _ (by rfl) hd6 Tryz.underlying35 (by rfl) hi1) rfl ?_
    exact HFIN.out W6 E1 (HOV.out.touch ht6 (fun k hk e => hnRh.out (e ▸ hk))) (HBE.out.trans (ht6.below HBE.out.size (fun k hk => by omega))) (HF.out.trans ((congrArg (fun z => E1.setIfInBounds 8 (.int .i64 z)) EW.out).trans HS8.out))
set_option maxRecDepth 100000 in
set_option maxHeartbeats 8000000 in
theorem add1_any (w : World) (c : Cfg) (x : H) (y : DV) (v : Nat) (h : Doc w y x) (j : J c x) :
    Calls Tryz.prog 72 #[.agg (dE c y x), .int .i64 1, .int .u16 (v : Int)] w fun e w' => ∃ y', e = .returned (.agg (dE c y' (addH x 1 v))) ∧ Doc w' y' (addH x 1 v) ∧ DNew w w' y y' := by
  obtain ⟨Z, hZ⟩ : ∃ Z, zE = Z := ⟨_, rfl⟩
  have hZs : Z.size = 12 := by rw [← hZ]; exact zE_size
  obtain ⟨W1, hW1⟩ : ∃ W1, W1 = (w.alloc (.cells (dE c y x) 35)).alloc (.cells Z 35) := ⟨_, rfl⟩
  have hX : Blk W1 w.heap.size 35 (dE c y x) := by rw [hW1]; exact (Blk.new w _ _).alloc _
  have hR : Blk W1 (w.heap.size + 1) 35 Z := by
    rw [hW1]
    have := Blk.new (w.alloc (.cells (dE c y x) 35)) 35 Z
    simpa using this
  have hB : Below w.heap.size w W1 := by rw [hW1]; exact ((Below.refl _ w).alloc (Nat.le_refl _) _).alloc (by simp) _
  have hk := j.kn 1 (by omega)
  have hun := j.un
  have hD1 := h.below hB
  obtain ⟨l, hll⟩ : ∃ l, (x.ks 1).length = l := ⟨_, rfl⟩
  obtain ⟨l2, hl2⟩ : ∃ l, x.us.length = l := ⟨_, rfl⟩
  obtain ⟨a1, c1, w1, a2, c2, w2, hr1, hr2, hon2, b2, how2⟩ := twiceU W1 y.a1 l y.c1 (x.ks 1) hll (by rw [← hll]; exact hD1.k1) v (by omega)
  have hX2 := hX.below b2 hX.lt
  have hR2 := hR.below b2 hR.lt
  have hWA := wrH_add j (i := 1) (by omega) v
  rw [hll, hl2] at hWA
  have fin := dE_add1 c y x v a2 c2
  rw [hll] at fin
  have hnB : Value.ownBlock (.slice a2 (l + 1) c2) ≠ some w.heap.size := fun e => by have := how2 _ e; have := hX.lt; omega
  have hnR : Value.ownBlock (.slice a2 (l + 1) c2) ≠ some (w.heap.size + 1) := fun e => by have := how2 _ e; have := hR.lt; omega
  obtain ⟨V, hV⟩ : ∃ V, V = (w2.setCell ⟨w.heap.size, 4, none⟩ (.slice a2 (l + 1) c2)).setCell ⟨w.heap.size, 6, none⟩ (.int .u16 (v : Int)) := ⟨_, rfl⟩
  have hBV : Blk V w.heap.size 35 (((dE c y x).setIfInBounds 4 (.slice a2 (l + 1) c2)).setIfInBounds 6 (.int .u16 (v : Int))) := by rw [hV]; exact Blk.set_ (Blk.set_ hX2 4 _) 6 _
  have hRV : Blk V (w.heap.size + 1) 35 Z := by rw [hV]; exact (hR2.far (by simp) _).far (by simp) _
  have hOV : On V 31 1 (.slice a2 (l + 1) c2) (l + 1) (u16s (x.ks 1 ++ [v])) := by rw [hV]; exact (hon2.far (fun e => hnB e) _).far (fun e => hnB e) _
  have b2' : Below w.heap.size w w2 := hB.trans (b2.mono hB.size)
  have bV : Below w.heap.size w V := by rw [hV]; exact (b2'.setCell (Nat.le_refl _) _).setCell (Nat.le_refl _) _
  have HU : l < l2 → ∃ gu, y.au = some ⟨gu, 0, none⟩ ∧ V.cell? ⟨gu, l * 2, none⟩ = some (.int .u16 (((col 0 x.us).getD l 0 : Nat) : Int)) ∧ V.cell? ⟨gu, l * 2 + 1, none⟩ = some (.int .u16 (((col 1 x.us).getD l 0 : Nat) : Int)) := fun hlt => by
    obtain ⟨gu, e, -, e0, e1⟩ := (h.below bV).atU (f := l) (by omega)
    exact ⟨gu, e, e0, e1⟩
  have HFIN := Lib.hid (show ∀ W E, On W 31 1 (.slice a2 (l + 1) c2) (l + 1) (u16s (x.ks 1 ++ [v])) → Below w.heap.size w W → dE c (y.put 1 a2 c2) (addH x 1 v) = E → ∃ y', Ending.returned (.agg E) = .returned (.agg (dE c y' (addH x 1 v))) ∧ Doc W y' (addH x 1 v) ∧ DNew w W y y' from fun W E ho hb hE => by
    subst hE
    subst hll
    exact ⟨_, rfl, h.add hb (by omega) ho (fun g hg => Nat.le_trans hB.size (how2 g hg))⟩)
  obtain ⟨E1, hE1⟩ : ∃ E1, ((dE c y x).setIfInBounds 4 (.slice a2 (l + 1) c2)).setIfInBounds 6 (.int .u16 (v : Int)) = E1 := ⟨_, rfl⟩
  have v7 : V.cell? ⟨w.heap.size, 7, none⟩ = some (.slice y.au l2 y.cu) := by rw [← hl2]; exact hBV.cell 7
  have v8 : V.cell? ⟨w.heap.size, 8, none⟩ = some (.int .i64 (Rl.wrH x)) := hBV.cell 8
  have f8 := hBV.frozen 8
  have q3 : W1.cell? ⟨w.heap.size, 4, none⟩ = some (.slice y.a1 l y.c1) := by rw [← hll]; exact hX.cell 4
  have q3' : (W1.alloc (.cells #[] 31)).cell? ⟨w.heap.size, 4, none⟩ = some (.slice y.a1 l y.c1) := by rw [← hll]; exact (hX.alloc _).cell 4
  have f3 := hX2.frozen 4
  have hX3 := Blk.set_ hX2 4 (.slice a2 (l + 1) c2)
  have f5 := hX3.frozen 6
  have u3 := hX2.cell 4
  have u5 := hX3.cell 6
  have hs1 : E1.size = 12 := by rw [← hE1]; rfl
  have ho1 : E1.all (·.oneCell') = true := by rw [← hE1]; exact one_set (one_set (dE_one c y x) _ _ rfl) _ _ rfl
  have hi1 : (Tryz.prog.info? 35).map (·.size) = some E1.size := by rw [hs1]; exact infoE
  have hzs1 : Z.size = E1.size := by rw [hs1, hZs]
  have s8 := set8_same c y x 1 (by omega) (.slice a2 (l + 1) c2) (.int .u16 (v : Int))
  have HS8 := Lib.hid (show E1.setIfInBounds 8 (.int .i64 (Rl.wrH x)) = E1 by rw [← hE1]; exact s8)
  rw [hE1] at hBV fin
  have HWA := Lib.hid hWA
  have HF := Lib.hid fin
  have HBV := Lib.hid hBV
  have HRV := Lib.hid hRV
  have HOV := Lib.hid hOV
  have HBE := Lib.hid bV
  have hlt0 := hX.lt
  have hz2 := b2'.size
  have hnBh := Lib.hid hnB
  have hnRh := Lib.hid hnR
  have u3' : w2.cell? ⟨w.heap.size, 4, none⟩ = some (.slice y.a1 l y.c1) := by rw [← hll]; exact u3
  have u5' : (w2.setCell ⟨w.heap.size, 4, none⟩ (.slice a2 (l + 1) c2)).cell? ⟨w.heap.size, 6, none⟩ = some (.int .u16 (lstH x 1 : Int)) := u5
  clear hX hR hB hD1 hon2 b2 how2 hX2 hR2 hWA fin hnB hnR hRV hOV b2' bV hE1 s8 hX3 u3 u5 hBV h j hll hl2
  generalize (col 0 x.us).getD l 0 = p0 at *
  generalize (col 1 x.us).getD l 0 = p1 at *
  generalize Rl.wrH x = wr at *
  generalize dE c y x = E at *
  by_cases g1 : l < l2
  · obtain ⟨gu, hgu, cu0, cu1⟩ := HU g1
    clear HU
    rw [hgu] at v7
    have g1' : (l : Int) < (l2 : Int) := by omega
    have l0' : (0 : Int) ≤ (l : Int) := by omega
    by_cases g2 : p1 = v
    · have EW := Lib.hid (HWA.out.trans (if_neg (fun h => h.2.1 g2)))
      have g2' : ((p1 : Int) == (v : Int)) = true := by simp [g2]
      have g2'' : ((p1 : Int) != (v : Int)) = false := by simp [g2]
      go_enter Tryz.func72, Tryz.ntmps72
      go_upto_region 1 with fail
      rw [← hZ] at hW1
      unfold zE at hW1
      rw [← hW1]
      clear hW1
      go_upto_region 2 with fail
      go_upto_region 4 with fail
      rw [← hV]
      clear hV hr1 hr2 q3 q3' f3 f5 u3' u5' 
      go_upto_region 6 with fail
      have HBL := HBV.out
      have HRL := HRV.out
      go_wp2_with (first | (refine wpList_load_blk (by rfl) 35 _ (by rfl) w.heap.size (by rfl) _ E1 _ HBL Tryz.underlying35 (by rfl) hi1 ?_) | (refine wpList_store_blk (by rfl) 35 _ _ (by rfl) (w.heap.size + 1) E1 (by rfl) (by rfl) _ Z HRL hi1 hzs1 ho1 ?_; intro W6 hd6 ht6) | fail)
      refine bodyPost_ret (v := .agg E1) (results_blk Tryz.results72 _ _ (w.heap.size + 1) _ _ _ (by rfl) hd6 Tryz.underlying35 (by rfl) hi1) rfl ?_
      exact HFIN.out W6 E1 (HOV.out.touch ht6 (fun k hk e => hnRh.out (e ▸ hk))) (HBE.out.trans (ht6.below HBE.out.size (fun k hk => by omega))) (HF.out.trans ((congrArg (fun z => E1.setIfInBounds 8 (.int .i64 z)) EW.out).trans HS8.out))
    · have g2' : ((p1 : Int) == (v : Int)) = false := beq_eq_false_iff_ne.mpr (by omega)
      have g2'' : ((p1 : Int) != (v : Int)) = true := bne_iff_ne.mpr (by omega)
      by_cases g3 : wr < 0
      · have EW := Lib.hid (HWA.out.trans (if_pos ⟨g1, g2, .inl g3⟩))
        clear g2
        go_enter Tryz.func72, Tryz.ntmps72
        go_upto_region 1 with fail
        rw [← hZ] at hW1
        unfold zE at hW1
        rw [← hW1]
        clear hW1
        go_upto_region 2 with fail
        go_upto_region 4 with fail
        rw [← hV]
        clear hV hr1 hr2 q3 q3' f3 f5 u3' u5' 
        have HBL := Blk.set_ HBV.out 8 (.int .i64 (l : Int))
        have HRL : Blk (V.setCell ⟨w.heap.size, 8, none⟩ (.int .i64 (l : Int))) (w.heap.size + 1) 35 Z := HRV.out.far (by simp) _
        have hs9 : (E1.setIfInBounds 8 (.int .i64 (l : Int))).size = 12 := by simpa using hs1
        have HOL := Lib.hid (HOV.out.far (p := ⟨w.heap.size, 8, none⟩) (fun e => hnBh.out e) (.int .i64 (l : Int)))
        have HBL2 := Lib.hid (HBE.out.setCell (p := ⟨w.heap.size, 8, none⟩) (Nat.le_refl _) (.int .i64 (l : Int)))
        have HE9 := Lib.hid (show dE c (y.put 1 a2 c2) (addH x 1 v) = E1.setIfInBounds 8 (.int .i64 (l : Int)) from HF.out.trans (congrArg (fun z => E1.setIfInBounds 8 (.int .i64 z)) EW.out))
        have ho9 : (E1.setIfInBounds 8 (.int .i64 (l : Int))).all (·.oneCell') = true := by rw [← HE9.out]; exact dE_one _ _ _
        have hi9 : (Tryz.prog.info? 35).map (·.size) = some (E1.setIfInBounds 8 (.int .i64 (l : Int))).size := by rw [hs9]; exact infoE
        have hzs9 : Z.size = (E1.setIfInBounds 8 (.int .i64 (l : Int))).size := by rw [hs9, hZs]
        generalize E1.setIfInBounds 8 (.int .i64 (l : Int)) = E9 at *
        go_upto_region 6 with fail
        go_wp2_with (first | (refine wpList_load_blk (by rfl) 35 _ (by rfl) w.heap.size (by rfl) _ E9 _ HBL Tryz.underlying35 (by rfl) hi9 ?_) | (refine wpList_store_blk (by rfl) 35 _ _ (by rfl) (w.heap.size + 1) E9 (by rfl) (by rfl) _ Z HRL hi9 hzs9 ho9 ?_; intro W6 hd6 ht6) | fail)
        refine bodyPost_ret (v := .agg E9) (results_blk Tryz.results72 _ _ (w.heap.size + 1) _ _ _ (by rfl) hd6 Tryz.underlying35 (by rfl) hi9) rfl ?_
        exact HFIN.out W6 E9 (HOL.out.touch ht6 (fun k hk e => hnRh.out (e ▸ hk))) (HBL2.out.trans (ht6.below HBL2.out.size (fun k hk => by omega))) HE9.out
      · by_cases g4 : (l : Int) < wr
        · have EW := Lib.hid (HWA.out.trans (if_pos ⟨g1, g2, .inr g4⟩))
          clear g2
          go_enter Tryz.func72, Tryz.ntmps72
          go_upto_region 1 with fail
          rw [← hZ] at hW1
          unfold zE at hW1
          rw [← hW1]
          clear hW1
          go_upto_region 2 with fail
          go_upto_region 4 with fail
          rw [← hV]
          clear hV hr1 hr2 q3 q3' f3 f5 u3' u5' 
          have HBL := Blk.set_ HBV.out 8 (.int .i64 (l : Int))
          have HRL : Blk (V.setCell ⟨w.heap.size, 8, none⟩ (.int .i64 (l : Int))) (w.heap.size + 1) 35 Z := HRV.out.far (by simp) _
          have hs9 : (E1.setIfInBounds 8 (.int .i64 (l : Int))).size = 12 := by simpa using hs1
          have HOL := Lib.hid (HOV.out.far (p := ⟨w.heap.size, 8, none⟩) (fun e => hnBh.out e) (.int .i64 (l : Int)))
          have HBL2 := Lib.hid (HBE.out.setCell (p := ⟨w.heap.size, 8, none⟩) (Nat.le_refl _) (.int .i64 (l : Int)))
          have HE9 := Lib.hid (show dE c (y.put 1 a2 c2) (addH x 1 v) = E1.setIfInBounds 8 (.int .i64 (l : Int)) from HF.out.trans (congrArg (fun z => E1.setIfInBounds 8 (.int .i64 z)) EW.out))
          have ho9 : (E1.setIfInBounds 8 (.int .i64 (l : Int))).all (·.oneCell') = true := by rw [← HE9.out]; exact dE_one _ _ _
          have hi9 : (Tryz.prog.info? 35).map (·.size) = some (E1.setIfInBounds 8 (.int .i64 (l : Int))).size := by rw [hs9]; exact infoE
          have hzs9 : Z.size = (E1.setIfInBounds 8 (.int .i64 (l : Int))).size := by rw [hs9, hZs]
          generalize E1.setIfInBounds 8 (.int .i64 (l : Int)) = E9 at *
          go_upto_region 6 with fail
          go_wp2_with (first | (refine wpList_load_blk (by rfl) 35 _ (by rfl) w.heap.size (by rfl) _ E9 _ HBL Tryz.underlying35 (by rfl) hi9 ?_) | (refine wpList_store_blk (by rfl) 35 _ _ (by rfl) (w.heap.size + 1) E9 (by rfl) (by rfl) _ Z HRL hi9 hzs9 ho9 ?_; intro W6 hd6 ht6) | fail)
          refine bodyPost_ret (v := .agg E9) (results_blk Tryz.results72 _ _ (w.heap.size + 1) _ _ _ (by rfl) hd6 Tryz.underlying35 (by rfl) hi9) rfl ?_
          exact HFIN.out W6 E9 (HOL.out.touch ht6 (fun k hk e => hnRh.out (e ▸ hk))) (HBL2.out.trans (ht6.below HBL2.out.size (fun k hk => by omega))) HE9.out
        · have EW := Lib.hid (HWA.out.trans (if_neg (fun h => h.2.2.elim g3 g4)))
          clear g2
          go_enter Tryz.func72, Tryz.ntmps72
          go_upto_region 1 with fail
          rw [← hZ] at hW1
          unfold zE at hW1
          rw [← hW1]
          clear hW1
          go_upto_region 2 with fail
          go_upto_region 4 with fail
          rw [← hV]
          clear hV hr1 hr2 q3 q3' f3 f5 u3' u5' 
          go_upto_region 6 with fail
          have HBL := HBV.out
          have HRL := HRV.out
          go_wp2_with (first | (refine wpList_load_blk (by rfl) 35 _ (by rfl) w.heap.size (by rfl) _ E1 _ HBL Tryz.underlying35 (by rfl) hi1 ?_) | (refine wpList_store_blk (by rfl) 35 _ _ (by rfl) (w.heap.size + 1) E1 (by rfl) (by rfl) _ Z HRL hi1 hzs1 ho1 ?_; intro W6 hd6 ht6) | fail)
          refine bodyPost_ret (v := .agg E1) (results_blk Tryz.results72 _ _ (w.heap.size + 1) _ _ _ (by rfl) hd6 Tryz.underlying35 (by rfl) hi1) rfl ?_
          exact HFIN.out W6 E1 (HOV.out.touch ht6 (fun k hk e => hnRh.out (e ▸ hk))) (HBE.out.trans (ht6.below HBE.out.size (fun k hk => by omega))) (HF.out.trans ((congrArg (fun z => E1.setIfInBounds 8 (.int .i64 z)) EW.out).trans HS8.out))
  · have EW := Lib.hid (HWA.out.trans (if_neg (fun h => g1 h.1)))
    have g1' : ¬ (l : Int) < (l2 : Int) := by omega
    clear HU
    go_enter Tryz.func72, Tryz.ntmps72
    go_upto_region 1 with fail
    rw [← hZ] at hW1
    unfold zE at hW1
    rw [← hW1]
    clear hW1
    go_upto_region 2 with fail
    go_upto_region 4 with fail
    rw [← hV]
    clear hV hr1 hr2 q3 q3' f3 f5 u3' u5' 
    go_upto_region 6 with fail
    have HBL := HBV.out
    have HRL := HRV.out
    go_wp2_with (first | (refine wpList_load_blk (by rfl) 35 _ (by rfl) w.heap.size (by rfl) _ E1 _ HBL Tryz.underlying35 (by rfl) hi1 ?_) | (refine wpList_store_blk (by rfl) 35 _ _ (by rfl) (w.heap.size + 1) E1 (by rfl) (by rfl) _ Z HRL hi1 hzs1 ho1 ?_; intro W6 hd6 ht6) | fail)
    refine bodyPost_ret (v := .agg E1) (results_blk Tryz.results72 _ _ (w.heap.size + 1) _ _ _ (by rfl) hd6 Tryz.underlying35 (by rfl) hi1) rfl ?_
    exact HFIN.out W6 E1 (HOV.out.touch ht6 (fun k hk e => hnRh.out (e ▸ hk))) (HBE.out.trans (ht6.below HBE.out.size (fun k hk => by omega))) (HF.out.trans ((congrArg (fun z => E1.setIfInBounds 8 (.int .i64 z)) EW.out).trans HS8.out))
end
end Go.Proofs.YtckkpgopddnkiaaGreat.Rl
namespace Go.Proofs.YtckkpgopddnkiaaGreat.Rl
open Go.RowKit Go.Sort Go.Shelf Go.Proofs.YtckkpgopddnkiaaGreat.Gm Go.Proofs.YtckkpgopddnkiaaGreat.RingE Go.Proofs.YtckkpgopddnkiaaGreat.Inputq
set_option linter.all false

theorem pair_resultsD {fn : Func} {p q : Tmp} (hfn : fn.results = #[.cell p 35, .tmp q]) (tmps : Array Value) (W : World) (g : Nat) (t : TypeId) (C : Array Value) (v : Value) (h : Blk W g t C) (hC : (Tryz.prog.info? 35).map (·.size) = some C.size)
    (h4 : tmps.getD p undef = .pointer (some ⟨g, 0, none⟩)) (h5 : tmps.getD q undef = v) : (results fn tmps).run Tryz.prog W = .ok (.tuple #[.agg C, v]) W := by
  have e4 : tmps[p]?.getD undef = .pointer (some ⟨g, 0, none⟩) := by simpa using h4
  have e5 : tmps[q]?.getD undef = v := by simpa using h5
  have hl := run_loadVar_row (P := Tryz.prog) W g t 35 C (0, 0) _ h Tryz.underlying35 rfl hC
  simp [results, hfn, e4, e5, asAddr, hl]
theorem DNew.refl_ {w w' : World} (y : DV) (hb : Below w.heap.size w w') : DNew w w' y y := ⟨hb, fun k hk => .inl hk⟩
theorem DNew.touchR {w w1 w2 : World} {y y' : DV} (h : DNew w w1 y y') {r : Nat} (hr : w.heap.size ≤ r) (ht : Touch (fun k => k = r) w1 w2) : DNew w w2 y y' := ⟨h.1.trans (ht.below h.1.size (fun k hk => hk ▸ hr)), h.2⟩
set_option maxRecDepth 100000 in
set_option maxHeartbeats 8000000 in
theorem aremote0_any (w : World) (c : Cfg) (x : H) (y : DV) (v : Nat) (h : Doc w y x) (j : J c x) (hlo : c.lo = 0) :
    Calls Tryz.prog 46 #[.agg (dE c y x), .int .u16 (v : Int)] w fun e w' => ∃ y', e = .returned (.tuple #[.agg (dE c y' (addHR c x v)), .bool (decide (¬ addHT c x))]) ∧ Doc w' y' (addHR c x v) ∧ DNew w w' y y' := by
  obtain ⟨Z, hZ⟩ : ∃ Z, zE = Z := ⟨_, rfl⟩
  have hZs : Z.size = 12 := by rw [← hZ]; exact zE_size
  obtain ⟨W1, hW1⟩ : ∃ W1, W1 = (w.alloc (.cells (dE c y x) 35)).alloc (.cells Z 35) := ⟨_, rfl⟩
  have hX : Blk W1 w.heap.size 35 (dE c y x) := by rw [hW1]; exact (Blk.new w _ _).alloc _
  have hR : Blk W1 (w.heap.size + 1) 35 Z := by
    rw [hW1]
    have := Blk.new (w.alloc (.cells (dE c y x) 35)) 35 Z
    simpa using this
  have hB : Below w.heap.size w W1 := by rw [hW1]; exact ((Below.refl _ w).alloc (Nat.le_refl _) _).alloc (by simp) _
  have hk := j.kn 1 (by omega)
  have hun := j.un
  have hT : addHT c x ↔ (x.us.length : Int) + 128 ≤ ((x.ks 1).length : Int) := by unfold addHT; rw [hlo]; constructor <;> intro h <;> (simp only [Nat.sub_zero, Nat.sub_self] at *; omega)
  have hRe : ¬ addHT c x → addHR c x v = addH x 1 v := fun h => by unfold addHR; rw [if_neg h, hlo]
  have hRs : addHT c x → addHR c x v = x := fun h => by unfold addHR; rw [if_pos h]
  obtain ⟨d0, d1, d2, d3, d4, d5, d6, d7, d8, d9, d10, d11⟩ := dE_cells hX
  rw [hlo] at d1
  have hD1 := h.below hB
  have hes := dE_size c y x
  have hei := dE_info c y x
  have heo := dE_one c y x
  have hzs1 : Z.size = (dE c y x).size := by rw [hes, hZs]
  have HX := Lib.hid hX
  have HR := Lib.hid hR
  have HB := Lib.hid hB
  have HD := Lib.hid hD1
  have HLT := Lib.hid h.lt
  have pA := Lib.hid (fun W hd => add1_any W c x y v hd j)
  have hlt0 := hX.lt
  clear hX hR hB hD1 h j hk
  obtain ⟨l, hll⟩ : ∃ l, (x.ks 1).length = l := ⟨_, rfl⟩
  obtain ⟨l2, hl2⟩ : ∃ l, x.us.length = l := ⟨_, rfl⟩
  rw [hll] at d4 hT
  rw [hl2] at d7 hT hun
  clear hll hl2
  have w1 : IntKind.i64.wrap ((l2 : Int) + 128) = (l2 : Int) + 128 := IntWalk.i64_in _ (by omega)
  obtain ⟨E, hE⟩ : ∃ E, dE c y x = E := ⟨_, rfl⟩
  rw [hE] at hW1 hes hei heo hzs1 HX pA ⊢
  by_cases g1 : (l2 : Int) + 128 ≤ (l : Int)
  · have hTT := hT.2 g1
    have HRE := Lib.hid (hRs hTT)
    have HDE := Lib.hid hE
    have HTT := Lib.hid hTT
    clear hT hRe hRs hTT pA hE
    go_enter Tryz.func46, Tryz.ntmps46
    go_upto_region 1 with fail
    rw [← hZ] at hW1
    unfold zE at hW1
    rw [← hW1]
    clear hW1
    go_upto_region 2 with fail
    go_quiet (fail)
    have HBL : Blk (W1.drewN nq) w.heap.size 35 E := HX.out.drewN nq
    have HRL : Blk (W1.drewN nq) (w.heap.size + 1) 35 Z := HR.out.drewN nq
    have HBN := Lib.hid (below_drewN HB.out nq)
    have HDN := Lib.hid (HD.out.drewN nq)
    generalize W1.drewN nq = W2 at *
    clear d0 d1 d2 d3 d4 d5 d6 d7 d8 d9 d10 d11
    go_upto_region 3 with fail
    go_wp2_with (first | (refine wpList_load_blk (by rfl) 35 _ (by rfl) w.heap.size (by rfl) _ E _ HBL Tryz.underlying35 (by rfl) hei ?_) | (refine wpList_store_blk (by rfl) 35 _ _ (by rfl) (w.heap.size + 1) E (by rfl) (by rfl) _ Z HRL hei hzs1 heo ?_; intro W6 hd6 ht6) | fail)
    refine bodyPost_ret (v := .tuple #[.agg E, .bool false]) (pair_resultsD Tryz.results46 _ _ (w.heap.size + 1) _ E _ hd6 hei (by rfl) (by rfl)) rfl ?_
    rw [HRE.out]
    refine ⟨y, ?_, HDN.out.touch ht6 (fun k hk e => by have := HLT.out k hk; omega), (DNew.refl_ y HBN.out).touchR (by omega) ht6⟩
    rw [HDE.out, decide_eq_false (fun h => h HTT.out)]
  · have hTT : ¬ addHT c x := fun h => g1 (hT.1 h)
    have HRE := Lib.hid (hRe hTT)
    have HTT := Lib.hid hTT
    clear hT hRe hRs hTT hE
    go_enter Tryz.func46, Tryz.ntmps46
    go_upto_region 1 with fail
    rw [← hZ] at hW1
    unfold zE at hW1
    rw [← hW1]
    clear hW1
    go_upto_region 2 with fail
    go_quiet (fail)
    have HBL : Blk (W1.drewN nq) w.heap.size 35 E := HX.out.drewN nq
    have HRL := Lib.hid (HR.out.drewN nq)
    have HBN := Lib.hid (below_drewN HB.out nq)
    have HDN := Lib.hid (HD.out.drewN nq)
    generalize W1.drewN nq = W2 at *
    clear d0 d1 d2 d3 d4 d5 d6 d7 d8 d9 d10 d11
    go_upto_region 4 with fail
    go_wp2_with (first | (refine wpList_load_blk (by rfl) 35 _ (by rfl) w.heap.size (by rfl) _ E _ HBL Tryz.underlying35 (by rfl) hei ?_) | fail)
    refine (pA.out W2 HDN.out).mono ?_
    rintro e w3 ⟨y', rfl, hD3, hN3⟩
    have HRL3 := HRL.out.below hN3.1 HRL.out.lt
    have hrl := HRL.out.lt
    have HD3 := Lib.hid hD3
    have HN3 := Lib.hid (show DNew w w3 y y' from ⟨HBN.out.trans (hN3.1.mono HBN.out.size), fun k hk => (hN3.2 k hk).imp id (fun e => Nat.le_trans HBN.out.size e)⟩)
    have HNR := Lib.hid (show ∀ k, y'.own k → ¬ k = w.heap.size + 1 from fun k hk e => by
      rcases hN3.2 k hk with a | a
      · have := HLT.out k a; omega
      · omega)
    have he9 := dE_size c y' (addH x 1 v)
    have hi9 := dE_info c y' (addH x 1 v)
    have ho9 := dE_one c y' (addH x 1 v)
    obtain ⟨E9, hE9⟩ : ∃ E, dE c y' (addH x 1 v) = E := ⟨_, rfl⟩
    have HE9 := Lib.hid hE9
    rw [hE9] at he9 hi9 ho9 ⊢
    have hzs9 : Z.size = E9.size := by rw [he9, hZs]
    clear hD3 hN3 hE9
    go_wp2_with (first | (refine wpList_store_blk (by rfl) 35 _ _ (by rfl) (w.heap.size + 1) E9 (by rfl) (by rfl) _ Z HRL3 hi9 hzs9 ho9 ?_; intro W6 hd6 ht6) | fail)
    refine bodyPost_ret (v := .tuple #[.agg E9, .bool true]) (pair_resultsD Tryz.results46 _ _ (w.heap.size + 1) _ E9 _ hd6 hi9 (by rfl) (by rfl)) rfl ?_
    rw [HRE.out]
    refine ⟨y', ?_, HD3.out.touch ht6 (fun k hk e => HNR.out k hk e), HN3.out.touchR (by omega) ht6⟩
    rw [HE9.out, decide_eq_true HTT.out]
set_option maxRecDepth 100000 in
set_option maxHeartbeats 8000000 in
theorem aremote1_any (w : World) (c : Cfg) (x : H) (y : DV) (v : Nat) (h : Doc w y x) (j : J c x) (hlo : c.lo = 1) :
    Calls Tryz.prog 46 #[.agg (dE c y x), .int .u16 (v : Int)] w fun e w' => ∃ y', e = .returned (.tuple #[.agg (dE c y' (addHR c x v)), .bool (decide (¬ addHT c x))]) ∧ Doc w' y' (addHR c x v) ∧ DNew w w' y y' := by
  obtain ⟨Z, hZ⟩ : ∃ Z, zE = Z := ⟨_, rfl⟩
  have hZs : Z.size = 12 := by rw [← hZ]; exact zE_size
  obtain ⟨W1, hW1⟩ : ∃ W1, W1 = (w.alloc (.cells (dE c y x) 35)).alloc (.cells Z 35) := ⟨_, rfl⟩
  have hX : Blk W1 w.heap.size 35 (dE c y x) := by rw [hW1]; exact (Blk.new w _ _).alloc _
  have hR : Blk W1 (w.heap.size + 1) 35 Z := by
    rw [hW1]
    have := Blk.new (w.alloc (.cells (dE c y x) 35)) 35 Z
    simpa using this
  have hB : Below w.heap.size w W1 := by rw [hW1]; exact ((Below.refl _ w).alloc (Nat.le_refl _) _).alloc (by simp) _
  have hk := j.kn 0 (by omega)
  have hun := j.un
  have hT : addHT c x ↔ (x.us.length : Int) + 128 ≤ ((x.ks 0).length : Int) := by unfold addHT; rw [hlo]; constructor <;> intro h <;> (simp only [Nat.sub_zero, Nat.sub_self] at *; omega)
  have hRe : ¬ addHT c x → addHR c x v = addH x 0 v := fun h => by unfold addHR; rw [if_neg h, hlo]
  have hRs : addHT c x → addHR c x v = x := fun h => by unfold addHR; rw [if_pos h]
  obtain ⟨d0, d1, d2, d3, d4, d5, d6, d7, d8, d9, d10, d11⟩ := dE_cells hX
  rw [hlo] at d1
  have hD1 := h.below hB
  have hes := dE_size c y x
  have hei := dE_info c y x
  have heo := dE_one c y x
  have hzs1 : Z.size = (dE c y x).size := by rw [hes, hZs]
  have HX := Lib.hid hX
  have HR := Lib.hid hR
  have HB := Lib.hid hB
  have HD := Lib.hid hD1
  have HLT := Lib.hid h.lt
  have pA := Lib.hid (fun W hd => add0_any W c x y v hd j)
  have hlt0 := hX.lt
  clear hX hR hB hD1 h j hk
  obtain ⟨l, hll⟩ : ∃ l, (x.ks 0).length = l := ⟨_, rfl⟩
  obtain ⟨l2, hl2⟩ : ∃ l, x.us.length = l := ⟨_, rfl⟩
  rw [hll] at d3 hT
  rw [hl2] at d7 hT hun
  clear hll hl2
  have w1 : IntKind.i64.wrap ((l2 : Int) + 128) = (l2 : Int) + 128 := IntWalk.i64_in _ (by omega)
  obtain ⟨E, hE⟩ : ∃ E, dE c y x = E := ⟨_, rfl⟩
  rw [hE] at hW1 hes hei heo hzs1 HX pA ⊢
  by_cases g1 : (l2 : Int) + 128 ≤ (l : Int)
  · have hTT := hT.2 g1
    have HRE := Lib.hid (hRs hTT)
    have HDE := Lib.hid hE
    have HTT := Lib.hid hTT
    clear hT hRe hRs hTT pA hE
    go_enter Tryz.func46, Tryz.ntmps46
    go_upto_region 1 with fail
    rw [← hZ] at hW1
    unfold zE at hW1
    rw [← hW1]
    clear hW1
    go_upto_region 2 with fail
    go_quiet (fail)
    have HBL : Blk (W1.drewN nq) w.heap.size 35 E := HX.out.drewN nq
    have HRL : Blk (W1.drewN nq) (w.heap.size + 1) 35 Z := HR.out.drewN nq
    have HBN := Lib.hid (below_drewN HB.out nq)
    have HDN := Lib.hid (HD.out.drewN nq)
    generalize W1.drewN nq = W2 at *
    clear d0 d1 d2 d3 d4 d5 d6 d7 d8 d9 d10 d11
    go_upto_region 3 with fail
    go_wp2_with (first | (refine wpList_load_blk (by rfl) 35 _ (by rfl) w.heap.size (by rfl) _ E _ HBL Tryz.underlying35 (by rfl) hei ?_) | (refine wpList_store_blk (by rfl) 35 _ _ (by rfl) (w.heap.size + 1) E (by rfl) (by rfl) _ Z HRL hei hzs1 heo ?_; intro W6 hd6 ht6) | fail)
    refine bodyPost_ret (v := .tuple #[.agg E, .bool false]) (pair_resultsD Tryz.results46 _ _ (w.heap.size + 1) _ E _ hd6 hei (by rfl) (by rfl)) rfl ?_
    rw [HRE.out]
    refine ⟨y, ?_, HDN.out.touch ht6 (fun k hk e => by have := HLT.out k hk; omega), (DNew.refl_ y HBN.out).touchR (by omega) ht6⟩
    rw [HDE.out, decide_eq_false (fun h => h HTT.out)]
  · have hTT : ¬ addHT c x := fun h => g1 (hT.1 h)
    have HRE := Lib.hid (hRe hTT)
    have HTT := Lib.hid hTT
    clear hT hRe hRs hTT hE
    go_enter Tryz.func46, Tryz.ntmps46
    go_upto_region 1 with fail
    rw [← hZ] at hW1
    unfold zE at hW1
    rw [← hW1]
    clear hW1
    go_upto_region 2 with fail
    go_quiet (fail)
    have HBL : Blk (W1.drewN nq) w.heap.size 35 E := HX.out.drewN nq
    have HRL := Lib.hid (HR.out.drewN nq)
    have HBN := Lib.hid (below_drewN HB.out nq)
    have HDN := Lib.hid (HD.out.drewN nq)
    generalize W1.drewN nq = W2 at *
    clear d0 d1 d2 d3 d4 d5 d6 d7 d8 d9 d10 d11
    go_upto_region 4 with fail
    go_wp2_with (first | (refine wpList_load_blk (by rfl) 35 _ (by rfl) w.heap.size (by rfl) _ E _ HBL Tryz.underlying35 (by rfl) hei ?_) | fail)
    refine (pA.out W2 HDN.out).mono ?_
    rintro e w3 ⟨y', rfl, hD3, hN3⟩
    have HRL3 := HRL.out.below hN3.1 HRL.out.lt
    have hrl := HRL.out.lt
    have HD3 := Lib.hid hD3
    have HN3 := Lib.hid (show DNew w w3 y y' from ⟨HBN.out.trans (hN3.1.mono HBN.out.size), fun k hk => (hN3.2 k hk).imp id (fun e => Nat.le_trans HBN.out.size e)⟩)
    have HNR := Lib.hid (show ∀ k, y'.own k → ¬ k = w.heap.size + 1 from fun k hk e => by
      rcases hN3.2 k hk with a | a
      · have := HLT.out k a; omega
      · omega)
    have he9 := dE_size c y' (addH x 0 v)
    have hi9 := dE_info c y' (addH x 0 v)
    have ho9 := dE_one c y' (addH x 0 v)
    obtain ⟨E9, hE9⟩ : ∃ E, dE c y' (addH x 0 v) = E := ⟨_, rfl⟩
    have HE9 := Lib.hid hE9
    rw [hE9] at he9 hi9 ho9 ⊢
    have hzs9 : Z.size = E9.size := by rw [he9, hZs]
    clear hD3 hN3 hE9
    go_wp2_with (first | (refine wpList_store_blk (by rfl) 35 _ _ (by rfl) (w.heap.size + 1) E9 (by rfl) (by rfl) _ Z HRL3 hi9 hzs9 ho9 ?_; intro W6 hd6 ht6) | fail)
    refine bodyPost_ret (v := .tuple #[.agg E9, .bool true]) (pair_resultsD Tryz.results46 _ _ (w.heap.size + 1) _ E9 _ hd6 hi9 (by rfl) (by rfl)) rfl ?_
    rw [HRE.out]
    refine ⟨y', ?_, HD3.out.touch ht6 (fun k hk e => HNR.out k hk e), HN3.out.touchR (by omega) ht6⟩
    rw [HE9.out, decide_eq_true HTT.out]
end Go.Proofs.YtckkpgopddnkiaaGreat.Rl
