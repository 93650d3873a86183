/-
  Texts joined: RdJ. No condition.
-/
import Derived.Test.YtckkpgopddnkiaaGreatBRp18
import Derived.StillTailTactics
namespace Go.Proofs.YtckkpgopddnkiaaGreat.Rl
open Go.RowKit Go.Sort Go.Shelf Go.Proofs.YtckkpgopddnkiaaGreat.Gm Go.Proofs.YtckkpgopddnkiaaGreat.RingE Go.Proofs.YtckkpgopddnkiaaGreat.Inputq
set_option linter.all false

theorem exec_stE (ev : Operand → Value) (dst : Option Tmp) (x y : Operand) (ty : TypeId) (pos : String) (after : Array Edge) (guard : Option (Nat × Bool)) (w : World) :
    (execOp ev { dst := dst, op := Op.store 35 x y, type := ty, pos := pos, after := after, guard := guard }).run Tryz.prog w = storeR Tryz.prog 35 (ev x) (ev y) w := exec_store ..
theorem storeRE {w : World} {g : Nat} {t : TypeId} {old cells : Array Value} (hg : Blk w g t old) (hi : (Tryz.prog.info? 35).map (·.size) = some cells.size) (ho : old.size = cells.size) (h1 : cells.all (·.oneCell') = true) :
    ∃ w', storeR Tryz.prog 35 (.pointer (some ⟨g, 0, none⟩)) (.agg cells) w = .ok .skip w' ∧ Blk w' g t cells ∧ Touch (fun k => k = g) w w' := by
  refine ⟨w.setRow g cells, ?_, Blk.setRow hg cells, touch_setRow w g cells⟩
  unfold storeR
  simp only [Instr.storeAt, Instr.sureAddr, Sem.run_bind, Sem.run_pure, Result.andThen_ok, run_storeVar_row w g t 35 old cells hg hi ho h1]
/-- do's own blocks: the document's engine, the operation, the result. -/
structure DoB (wr W : World) (E Z : Array Value) (kd : Int) (u : Nat) (of : Int) : Prop where
  bx : Blk W wr.heap.size 35 E
  op : Blk W (wr.heap.size + 1) 72 #[.int .i64 kd, .int .u16 (u : Int), .int .i64 of]
  rs : Blk W (wr.heap.size + 2) 35 Z
  lo : Below wr.heap.size wr W
theorem DoB.below {wr W W' : World} {E Z : Array Value} {kd of : Int} {u : Nat} (h : DoB wr W E Z kd u of) (hb : Below W.heap.size W W') : DoB wr W' E Z kd u of :=
  ⟨h.bx.below hb h.bx.lt, h.op.below hb h.op.lt, h.rs.below hb h.rs.lt, h.lo.trans (hb.mono h.lo.size)⟩
/-- The same behind the engine's turn: nothing is said of what lay below. -/
structure DoT (b : Nat) (W : World) (E Z : Array Value) (kd : Int) (u : Nat) (of : Int) : Prop where
  bx : Blk W b 35 E
  op : Blk W (b + 1) 72 #[.int .i64 kd, .int .u16 (u : Int), .int .i64 of]
  rs : Blk W (b + 2) 35 Z
theorem DoT.below {b : Nat} {W W' : World} {E Z : Array Value} {kd of : Int} {u : Nat} (h : DoT b W E Z kd u of) (hb : Below W.heap.size W W') : DoT b W' E Z kd u of :=
  ⟨h.bx.below hb h.bx.lt, h.op.below hb h.op.lt, h.rs.below hb h.rs.lt⟩
theorem DoT.tn {b : Nat} {W W' : World} {E Z : Array Value} {kd of : Int} {u : Nat} {s s' : SE} {cf : Cfg} {x : H} (h : DoT b W E Z kd u of) (hA : HAt W cf s x) (ht : Tn s s' W W') : DoT b W' E Z kd u of :=
  ⟨ht.blk h.bx hA (by decide), ht.blk h.op hA (by decide), ht.blk h.rs hA (by decide)⟩
theorem DoT.oc {b : Nat} {W : World} {E Z : Array Value} {kd of : Int} {u : Nat} (h : DoT b W E Z kd u of) : W.cell? ⟨b + 1, 0, none⟩ = some (.int .i64 kd) ∧ W.cell? ⟨b + 1, 1, none⟩ = some (.int .u16 (u : Int)) ∧ W.cell? ⟨b + 1, 2, none⟩ = some (.int .i64 of) := ⟨h.op.cell 0, h.op.cell 1, h.op.cell 2⟩
theorem doT_start (wr : World) (E Z : Array Value) (kd of : Int) (u : Nat) : DoT wr.heap.size (((wr.alloc (.cells E 35)).alloc (.cells #[.int .i64 kd, .int .u16 (u : Int), .int .i64 of] 72)).alloc (.cells Z 35)) E Z kd u of := by
  refine ⟨((Blk.new wr _ _).alloc _).alloc _, ?_, ?_⟩
  · have := (Blk.new (wr.alloc (.cells E 35)) 72 #[.int .i64 kd, .int .u16 (u : Int), .int .i64 of]).alloc (.cells Z 35)
    simpa using this
  · have := Blk.new ((wr.alloc (.cells E 35)).alloc (.cells #[.int .i64 kd, .int .u16 (u : Int), .int .i64 of] 72)) 35 Z
    simpa using this
theorem below3 (wr : World) (a b c : Obj) : Below wr.heap.size wr (((wr.alloc a).alloc b).alloc c) := (((Below.refl _ wr).alloc (Nat.le_refl _) a).alloc (by simp) b).alloc (by simp; omega) c
theorem Doc.ne {w : World} {y : DV} {x : H} (h : Doc w y x) {r : Nat} {cs : Array Value} (hr : Blk w r 35 cs) : ¬ y.own r := by
  rintro (e | e | e)
  · exact On.blk_ne h.k0 hr (by decide) (own_to e)
  · exact On.blk_ne h.k1 hr (by decide) (own_to e)
  · exact On.blk_ne h.us hr (by decide) (own_to e)
theorem DD.res {w wr W : World} {cf : Cfg} {g : Nat} {s : SE} {x : H} {y : DV} {K : Nat} (h : DD w wr cf g s x y K) {r : Nat} {cs : Array Value} (hr : Blk wr r 35 cs) (hwr : w.heap.size ≤ r) (ht : Touch (fun k => k = r) wr W) : DD w W cf g s x y K :=
  { h with ha := h.ha.touch ht (fun k hk e => h.ha.other hr (by decide) (e ▸ hk)), dc := h.dc.touch ht (fun k hk e => h.dc.ne hr (e ▸ hk)), lo := h.lo.trans (ht.below h.lo.size (fun k hk => hk ▸ hwr)) }
/-- What do answers. -/
def DoP (w wr : World) (cf : Cfg) (g : Nat) (s : SE) (K : Nat) (e : Ending) (W : World) : Prop :=
  ∃ s' x' y', e = .returned (.tuple #[.agg (dE cf y' x'), .bool true]) ∧ DD w W cf g s' x' y' K ∧ Tn s s' wr W
set_option maxRecDepth 100000 in
set_option maxHeartbeats 8000000 in
theorem do0_any (w wr : World) (cf : Cfg) (g : Nat) (s : SE) (x : H) (y : DV) (K : Nat) (h : DD w wr cf g s x y K) (hK : K < 100) (u : Nat) (of : Int) (hu : u < 65536) :
    Calls Tryz.prog 22 #[.pointer (some ⟨g, 0, none⟩), .agg (dE cf y x), .agg #[.int .i64 0, .int .u16 (u : Int), .int .i64 of]] wr (DoP w wr cf g s (K + 1)) := by
  obtain ⟨Z, hZ⟩ : ∃ Z, zE = Z := ⟨_, rfl⟩
  have hZs : Z.size = 12 := by rw [← hZ]; exact zE_size
  have hes := dE_size cf y x
  have hei := dE_info cf y x
  have heo := dE_one cf y x
  have HDE := Lib.hid (fun (W : World) (b : Nat) (hb : Blk W b 35 (dE cf y x)) => dE_cells hb)
  obtain ⟨E, hE⟩ : ∃ E, dE cf y x = E := ⟨_, rfl⟩
  have HEE := Lib.hid hE
  rw [hE] at hes hei heo HDE
  obtain ⟨W1, hW1⟩ : ∃ W1, W1 = ((wr.alloc (.cells E 35)).alloc (.cells #[.int .i64 0, .int .u16 (u : Int), .int .i64 of] 72)).alloc (.cells Z 35) := ⟨_, rfl⟩
  have hT1 : DoT wr.heap.size W1 E Z 0 u of := by rw [hW1]; exact doT_start wr E Z _ _ _
  have hb1 : Below wr.heap.size wr W1 := by rw [hW1]; exact below3 _ _ _ _
  have h1 := h.below hb1
  have hun := h.un
  have hlo := h.lo.size
  have pD := Lib.hid (h1.advD hK u hu)
  have pP := Lib.hid (h1.advP hK u hu)
  have hac := adv_counts2 (v := u) h.j hu (by omega)
  have HNX := Lib.hid (show ∀ w3 w5 y', Doc w3 y' (advH cf x u) → DNew W1 w3 y y' → ∀ V, Below w3.heap.size w3 V → HTurn V cf s (advH cf x u) w5 → ∃ s', DD w w5 cf g s' (advH cf x u) y' (K + 1) ∧ Tn s s' wr w5 ∧ Tn s s' V w5 from fun w3 w5 y' hd hn V hV ht => by
    obtain ⟨s', hDD, hTn, hTv⟩ := h1.next (hd.below hV) ⟨hn.1.trans (hV.mono hn.1.size), hn.2⟩ ht (h.j.adv hu (by omega)) (h.ib.adv h.j hu) (K' := K + 1) (by omega)
    exact ⟨s', hDD, hTn.pre hb1, hTv⟩)
  have HTA := Lib.hid (show ∀ w3 y', DNew W1 w3 y y' → ∀ V, Below w3.heap.size w3 V → HAt V cf s x from fun w3 y' hn V hV => (h1.ha.below hn.1).below hV)
  have HD1 := Lib.hid h1.dc
  have HT1 := Lib.hid hT1
  have hbx := hT1.bx
  obtain ⟨o0, o1, o2⟩ := hT1.oc
  have HT := Lib.hid (show (advT cf x → advE cf x = 250) ∧ (¬ advT cf x → advE cf x = 0) from ⟨fun h => if_pos h, fun h => if_neg h⟩)
  rw [hE] at pD ⊢
  clear hE h h1 hT1 hb1 hun hac
  by_cases hA : advT cf x
  · have e1 := HT.out.1 hA
    have e2 : decide (¬ advT cf x) = false := decide_eq_false (fun h => h hA)
    rw [e2] at pD
    rw [e1] at pP
    clear e1 e2 HT hA
    go_enter Tryz.func22, Tryz.ntmps22
    go_upto_region 1 with fail
    rw [← hZ] at hW1
    unfold zE at hW1
    rw [← hW1]
    clear hW1
    go_wp2_with (first | (refine wpList_load_blk (by rfl) 35 _ (by rfl) wr.heap.size (by rfl) _ E _ hbx Tryz.underlying35 (by rfl) hei ?_) | fail)
    refine (pD.out W1 HD1.out).mono ?_
    rintro e w3 ⟨y', rfl, hD3, hN3⟩
    have hT3 := HT1.out.below hN3.1
    have he1 := dE_size cf y' (advH cf x u)
    have hi1 := dE_info cf y' (advH cf x u)
    have ho1 := dE_one cf y' (advH cf x u)
    obtain ⟨E1, hE1⟩ : ∃ E1, dE cf y' (advH cf x u) = E1 := ⟨_, rfl⟩
    have HE1 := Lib.hid hE1
    rw [hE1] at he1 hi1 ho1 ⊢
    have hnew := Blk.new w3 35 zE
    have hzz : zE.size = E1.size := by rw [he1]; rfl
    have HD3 := Lib.hid hD3
    have HN3 := Lib.hid hN3
    have HT3 := Lib.hid hT3
    have hbl := (Below.refl w3.heap.size w3).alloc (Nat.le_refl _) (.cells zE 35)
    obtain ⟨o0, o1, o2⟩ := (hT3.below hbl).oc
    clear hD3 hN3 hT3 hE1 hbx o0 o2
    go_upto_region 6 with (first | (refine wpList_store_blk (by rfl) 35 _ _ (by rfl) w3.heap.size E1 (by rfl) (by rfl) _ _ hnew hi1 hzz ho1 ?_; intro W5 hd5 ht5) | fail)
    have hb5 : Below w3.heap.size w3 W5 := hbl.trans (ht5.below hbl.size (fun k hk => by omega))
    have hT5 := HT3.out.below hb5
    have hA5 := HTA.out w3 y' HN3.out W5 hb5
    have HA5 := Lib.hid hA5
    have HT5 := Lib.hid hT5
    have HB5 := Lib.hid hb5
    have HD5 := Lib.hid hd5
    obtain ⟨o0, o1, o2⟩ := hT5.oc
    clear hb5 hT5 hA5 ht5 hd5 hbl hnew o0 o2
    go_wp2_with fail
    refine (pP.out W5 HA5.out).mono ?_
    rintro e w6 ⟨rfl, htn⟩
    obtain ⟨s', hDD, hTn, hTv⟩ := HNX.out w3 w6 y' HD3.out HN3.out W5 HB5.out htn
    have hT6 := HT5.out.tn HA5.out hTv
    have hr6 := hT6.rs
    have hd6 := hTv.blk HD5.out HA5.out (by decide)
    have HDD := Lib.hid hDD
    have HTn := Lib.hid hTn
    have HT6 := Lib.hid hT6
    have hzr : Z.size = E1.size := by rw [hZs, he1]
    have hlt0 := HT1.out.rs.lt
    clear hDD hTn hTv hT6 htn o1
    go_wp2_with (first | (refine wpList_load_blk (by rfl) 35 _ (by rfl) w3.heap.size (by rfl) _ E1 _ hd6 Tryz.underlying35 (by rfl) hi1 ?_) | (refine wpList_store_blk (by rfl) 35 _ _ (by rfl) (wr.heap.size + 2) E1 (by rfl) (by rfl) _ _ hr6 hi1 hzr ho1 ?_; intro W7 hd7 ht7) | fail)
    refine bodyPost_ret (v := .tuple #[.agg E1, .bool true]) (pair_resultsD Tryz.results22 _ _ (wr.heap.size + 2) _ E1 _ hd7 hi1 (by rfl) (by rfl)) rfl ?_
    have hb7 : Tn s s' wr W7 := ⟨HTn.out.1.trans ht7 (fun k hk => .inr (by omega)), HTn.out.2⟩
    exact ⟨s', _, y', by rw [HE1.out], HDD.out.res hr6 (by omega) ht7, hb7⟩
  · have e1 := HT.out.2 hA
    have e2 : decide (¬ advT cf x) = true := decide_eq_true hA
    rw [e2] at pD
    rw [e1] at pP
    clear e1 e2 HT hA
    go_enter Tryz.func22, Tryz.ntmps22
    go_upto_region 1 with fail
    rw [← hZ] at hW1
    unfold zE at hW1
    rw [← hW1]
    clear hW1
    go_wp2_with (first | (refine wpList_load_blk (by rfl) 35 _ (by rfl) wr.heap.size (by rfl) _ E _ hbx Tryz.underlying35 (by rfl) hei ?_) | fail)
    refine (pD.out W1 HD1.out).mono ?_
    rintro e w3 ⟨y', rfl, hD3, hN3⟩
    have hT3 := HT1.out.below hN3.1
    have he1 := dE_size cf y' (advH cf x u)
    have hi1 := dE_info cf y' (advH cf x u)
    have ho1 := dE_one cf y' (advH cf x u)
    obtain ⟨E1, hE1⟩ : ∃ E1, dE cf y' (advH cf x u) = E1 := ⟨_, rfl⟩
    have HE1 := Lib.hid hE1
    rw [hE1] at he1 hi1 ho1 ⊢
    have hnew := Blk.new w3 35 zE
    have hzz : zE.size = E1.size := by rw [he1]; rfl
    have HD3 := Lib.hid hD3
    have HN3 := Lib.hid hN3
    have HT3 := Lib.hid hT3
    have hbl := (Below.refl w3.heap.size w3).alloc (Nat.le_refl _) (.cells zE 35)
    obtain ⟨o0, o1, o2⟩ := (hT3.below hbl).oc
    clear hD3 hN3 hT3 hE1 hbx o0 o2
    go_upto_region 6 with (first | (refine wpList_store_blk (by rfl) 35 _ _ (by rfl) w3.heap.size E1 (by rfl) (by rfl) _ _ hnew hi1 hzz ho1 ?_; intro W5 hd5 ht5) | fail)
    have hb5 : Below w3.heap.size w3 W5 := hbl.trans (ht5.below hbl.size (fun k hk => by omega))
    have hT5 := HT3.out.below hb5
    have hA5 := HTA.out w3 y' HN3.out W5 hb5
    have HA5 := Lib.hid hA5
    have HT5 := Lib.hid hT5
    have HB5 := Lib.hid hb5
    have HD5 := Lib.hid hd5
    obtain ⟨o0, o1, o2⟩ := hT5.oc
    clear hb5 hT5 hA5 ht5 hd5 hbl hnew o0 o2
    go_wp2_with fail
    refine (pP.out W5 HA5.out).mono ?_
    rintro e w6 ⟨rfl, htn⟩
    obtain ⟨s', hDD, hTn, hTv⟩ := HNX.out w3 w6 y' HD3.out HN3.out W5 HB5.out htn
    have hT6 := HT5.out.tn HA5.out hTv
    have hr6 := hT6.rs
    have hd6 := hTv.blk HD5.out HA5.out (by decide)
    have HDD := Lib.hid hDD
    have HTn := Lib.hid hTn
    have HT6 := Lib.hid hT6
    have hzr : Z.size = E1.size := by rw [hZs, he1]
    have hlt0 := HT1.out.rs.lt
    clear hDD hTn hTv hT6 htn o1
    go_wp2_with (first | (refine wpList_load_blk (by rfl) 35 _ (by rfl) w3.heap.size (by rfl) _ E1 _ hd6 Tryz.underlying35 (by rfl) hi1 ?_) | (refine wpList_store_blk (by rfl) 35 _ _ (by rfl) (wr.heap.size + 2) E1 (by rfl) (by rfl) _ _ hr6 hi1 hzr ho1 ?_; intro W7 hd7 ht7) | fail)
    refine bodyPost_ret (v := .tuple #[.agg E1, .bool true]) (pair_resultsD Tryz.results22 _ _ (wr.heap.size + 2) _ E1 _ hd7 hi1 (by rfl) (by rfl)) rfl ?_
    have hb7 : Tn s s' wr W7 := ⟨HTn.out.1.trans ht7 (fun k hk => .inr (by omega)), HTn.out.2⟩
    exact ⟨s', _, y', by rw [HE1.out], HDD.out.res hr6 (by omega) ht7, hb7⟩
section
attribute [local go_sem ↓] exec_ldE exec_stE
attribute [local go_sem] loadE_at cellsAt_drew
set_option maxRecDepth 100000 in
set_option maxHeartbeats 8000000 in
theorem do2_any (w wr : World) (cf : Cfg) (g : Nat) (s : SE) (x : H) (y : DV) (K : Nat) (h : DD w wr cf g s x y K) (hK : K < 100) (u : Nat) (of : Int) :
    Calls Tryz.prog 22 #[.pointer (some ⟨g, 0, none⟩), .agg (dE cf y x), .agg #[.int .i64 2, .int .u16 (u : Int), .int .i64 of]] wr (DoP w wr cf g s (K + 1)) := by
  obtain ⟨Z, hZ⟩ : ∃ Z, zE = Z := ⟨_, rfl⟩
  have hZs : Z.size = 12 := by rw [← hZ]; exact zE_size
  have hes := dE_size cf y x
  have hei := dE_info cf y x
  have heo := dE_one cf y x
  have HDE := Lib.hid (fun (W : World) (b : Nat) (hb : Blk W b 35 (dE cf y x)) => dE_cells hb)
  obtain ⟨E, hE⟩ : ∃ E, dE cf y x = E := ⟨_, rfl⟩
  have HEE := Lib.hid hE
  rw [hE] at hes hei heo HDE
  obtain ⟨W1, hW1⟩ : ∃ W1, W1 = ((wr.alloc (.cells E 35)).alloc (.cells #[.int .i64 2, .int .u16 (u : Int), .int .i64 of] 72)).alloc (.cells Z 35) := ⟨_, rfl⟩
  have hT1 : DoT wr.heap.size W1 E Z 2 u of := by rw [hW1]; exact doT_start wr E Z _ _ _
  have hb1 : Below wr.heap.size wr W1 := by rw [hW1]; exact below3 _ _ _ _
  have h1 := h.below hb1
  have hun := h.un
  have hlo := h.lo.size
  have pD := Lib.hid (h1.fixD hK)
  have pP := Lib.hid (h1.fixP hK)
  have hfc := fix_counts2 h.j
  have hfl := fixH_len h.j
  have HNX := Lib.hid (show ∀ w3 w5 y', Doc w3 y' (fixH x) → DNew W1 w3 y y' → ∀ V, Below w3.heap.size w3 V → HTurn V cf s (fixH x) w5 → ∃ s', DD w w5 cf g s' (fixH x) y' (K + 1) ∧ Tn s s' wr w5 ∧ Tn s s' V w5 from fun w3 w5 y' hd hn V hV ht => by
    obtain ⟨s', hDD, hTn, hTv⟩ := h1.next (hd.below hV) ⟨hn.1.trans (hV.mono hn.1.size), hn.2⟩ ht h.j.fix (h.ib.fix h.j) (K' := K + 1) (by omega)
    exact ⟨s', hDD, hTn.pre hb1, hTv⟩)
  have HTA := Lib.hid (show ∀ w3 y', DNew W1 w3 y y' → ∀ V, Below w3.heap.size w3 V → HAt V cf s x from fun w3 y' hn V hV => (h1.ha.below hn.1).below hV)
  have HD1 := Lib.hid h1.dc
  have HT1 := Lib.hid hT1
  have hbx := hT1.bx
  obtain ⟨o0, o1, o2⟩ := hT1.oc
  rw [hE] at pD ⊢
  clear hE h h1 hT1 hb1 hun hfc hfl
  generalize fixN x = fn at *
  go_enter Tryz.func22, Tryz.ntmps22
  go_upto_region 1 with fail
  rw [← hZ] at hW1
  unfold zE at hW1
  rw [← hW1]
  clear hW1
  go_wp2_with (first | (refine wpList_load_blk (by rfl) 35 _ (by rfl) wr.heap.size (by rfl) _ E _ hbx Tryz.underlying35 (by rfl) hei ?_) | fail)
  refine (pD.out W1 HD1.out).mono ?_
  rintro e w3 ⟨y', rfl, hD3, hN3⟩
  have hT3 := HT1.out.below hN3.1
  have he1 := dE_size cf y' (fixH x)
  have hi1 := dE_info cf y' (fixH x)
  have ho1 := dE_one cf y' (fixH x)
  obtain ⟨E1, hE1⟩ : ∃ E1, dE cf y' (fixH x) = E1 := ⟨_, rfl⟩
  have HE1 := Lib.hid hE1
  rw [hE1] at he1 hi1 ho1 ⊢
  have hnew := Blk.new w3 35 zE
  have hzz : zE.size = E1.size := by rw [he1]; rfl
  have HD3 := Lib.hid hD3
  have HN3 := Lib.hid hN3
  have HT3 := Lib.hid hT3
  have hbl := (Below.refl w3.heap.size w3).alloc (Nat.le_refl _) (.cells zE 35)
  clear hD3 hN3 hT3 hE1 hbx o0 o1 o2
  go_upto_region 10 with (first | (refine wpList_store_blk (by rfl) 35 _ _ (by rfl) w3.heap.size E1 (by rfl) (by rfl) _ _ hnew hi1 hzz ho1 ?_; intro W5 hd5 ht5) | fail)
  have hb5 : Below w3.heap.size w3 W5 := hbl.trans (ht5.below hbl.size (fun k hk => by omega))
  have hb5d : Below w3.heap.size w3 W5.drew := hb5.drew
  have HA5 := Lib.hid (HTA.out w3 y' HN3.out W5.drew hb5d)
  have HT5 := Lib.hid (HT3.out.below hb5d)
  have HB5 := Lib.hid hb5d
  have c5 : cellsAt W5.drew w3.heap.size = E1 := cellsAt_blk hd5
  have HD5 := Lib.hid (show Blk W5.drew w3.heap.size 35 E1 from hd5)
  have hzr : Z.size = E1.size := by rw [hZs, he1]
  have hlt0 := HT1.out.rs.lt
  clear hb5 hb5d ht5 hd5 hbl hnew
  go_region_law
    (first
      | (go_simp; go_at_call 35; (with_reducible refine (pP.out _ HA5.out).mono ?_); rintro e w6 ⟨rfl, htn⟩; obtain ⟨s', hDD, hTn, hTv⟩ := HNX.out w3 w6 y' HD3.out HN3.out W5.drew HB5.out htn; have hT6 := HT5.out.tn HA5.out hTv; have hr6 := hT6.rs; have c6 : cellsAt w6 w3.heap.size = E1 := cellsAt_blk (hTv.blk HD5.out HA5.out (by decide)); obtain ⟨W7, hst, hd7, ht7⟩ := storeRE hr6 hi1 hzr ho1; have HDD := Lib.hid hDD; have HTn := Lib.hid hTn)
      | fail)
  all_goals
    clear hT6 hst hTv htn hDD hTn c5 c6
    go_wp2_with fail
    refine bodyPost_ret (v := .tuple #[.agg E1, .bool true]) (pair_resultsD Tryz.results22 _ _ (wr.heap.size + 2) _ E1 _ hd7 hi1 (by rfl) (by rfl)) rfl ?_
    have hb7 : Tn s s' wr W7 := ⟨HTn.out.1.trans ht7 (fun k hk => .inr (by omega)), HTn.out.2⟩
    exact ⟨s', _, y', by rw [HE1.out], HDD.out.res hr6 (by omega) ht7, hb7⟩
end
set_option maxRecDepth 100000 in
set_option maxHeartbeats 8000000 in
theorem doX_any (w wr : World) (cf : Cfg) (g : Nat) (s : SE) (x : H) (y : DV) (K : Nat) (h : DD w wr cf g s x y K) (u : Nat) (kd of : Int) (k0 : ¬ kd = 0) (k1 : ¬ kd = 1) (k2 : ¬ kd = 2) (k3 : ¬ kd = 3) :
    Calls Tryz.prog 22 #[.pointer (some ⟨g, 0, none⟩), .agg (dE cf y x), .agg #[.int .i64 kd, .int .u16 (u : Int), .int .i64 of]] wr (DoP w wr cf g s (K + 1)) := by
  obtain ⟨Z, hZ⟩ : ∃ Z, zE = Z := ⟨_, rfl⟩
  have hZs : Z.size = 12 := by rw [← hZ]; exact zE_size
  have hes := dE_size cf y x
  have hei := dE_info cf y x
  have heo := dE_one cf y x
  have HDE := Lib.hid (fun (W : World) (b : Nat) (hb : Blk W b 35 (dE cf y x)) => dE_cells hb)
  obtain ⟨E, hE⟩ : ∃ E, dE cf y x = E := ⟨_, rfl⟩
  have HEE := Lib.hid hE
  rw [hE] at hes hei heo HDE
  obtain ⟨W1, hW1⟩ : ∃ W1, W1 = ((wr.alloc (.cells E 35)).alloc (.cells #[.int .i64 kd, .int .u16 (u : Int), .int .i64 of] 72)).alloc (.cells Z 35) := ⟨_, rfl⟩
  have hT1 : DoT wr.heap.size W1 E Z kd u of := by rw [hW1]; exact doT_start wr E Z _ _ _
  have hb1 : Below wr.heap.size wr W1 := by rw [hW1]; exact below3 _ _ _ _
  have h1 := h.below hb1
  have hlo := h.lo.size
  have H1 := Lib.hid h1.up
  have HB1 := Lib.hid hb1
  have hbx := hT1.bx
  have hrs := hT1.rs
  have hlt0 := hrs.lt
  have hzr : Z.size = E.size := by rw [hZs, hes]
  obtain ⟨o0, o1, o2⟩ := hT1.oc
  rw [hE]
  clear hE h h1 hT1 hb1
  go_enter Tryz.func22, Tryz.ntmps22
  go_upto_region 1 with fail
  rw [← hZ] at hW1
  unfold zE at hW1
  rw [← hW1]
  clear hW1
  go_wp2_with (first | (refine wpList_load_blk (by rfl) 35 _ (by rfl) wr.heap.size (by rfl) _ E _ hbx Tryz.underlying35 (by rfl) hei ?_) | (refine wpList_store_blk (by rfl) 35 _ _ (by rfl) (wr.heap.size + 2) E (by rfl) (by rfl) _ _ hrs hei hzr heo ?_; intro W7 hd7 ht7) | fail)
  refine bodyPost_ret (v := .tuple #[.agg E, .bool true]) (pair_resultsD Tryz.results22 _ _ (wr.heap.size + 2) _ E _ hd7 hei (by rfl) (by rfl)) rfl ?_
  exact ⟨s, x, y, by rw [HEE.out], H1.out.res hrs (by omega) ht7, ⟨(Touch.of_below (S := fpE s) HB1.out).trans ht7 (fun k hk => .inr (by omega)), fun k hk => .inl hk⟩⟩
set_option maxRecDepth 100000 in
set_option maxHeartbeats 8000000 in
theorem do1l0_any (w wb : World) (cf : Cfg) (g : Nat) (s : SE) (x : H) (y : DV) (K : Nat) (h : DD w wb cf g s x y K) (u : Nat) (of : Int) (hu : u < 65536) (hlo : cf.lo = 0) :
    Calls Tryz.prog 22 #[.pointer (some ⟨g, 0, none⟩), .agg (dE cf y x), .agg #[.int .i64 1, .int .u16 (u : Int), .int .i64 of]] wb (DoP w wb cf g s (K + 1)) := by
  obtain ⟨Z, hZ⟩ : ∃ Z, zE = Z := ⟨_, rfl⟩
  have hZs : Z.size = 12 := by rw [← hZ]; exact zE_size
  have hes := dE_size cf y x
  have hei := dE_info cf y x
  have heo := dE_one cf y x
  have HDE := Lib.hid (fun (W : World) (b : Nat) (hb : Blk W b 35 (dE cf y x)) => dE_cells hb)
  obtain ⟨E, hE⟩ : ∃ E, dE cf y x = E := ⟨_, rfl⟩
  have HEE := Lib.hid hE
  rw [hE] at hes hei heo HDE
  obtain ⟨W1, hW1⟩ : ∃ W1, W1 = ((wb.alloc (.cells E 35)).alloc (.cells #[.int .i64 1, .int .u16 (u : Int), .int .i64 of] 72)).alloc (.cells Z 35) := ⟨_, rfl⟩
  have hT1 : DoT wb.heap.size W1 E Z 1 u of := by rw [hW1]; exact doT_start wb E Z _ _ _
  have hb1 : Below wb.heap.size wb W1 := by rw [hW1]; exact below3 _ _ _ _
  have h1 := h.below hb1
  have hlo0 := h.lo.size
  have hun := h.un
  have hT1' : DoT wb.heap.size W1 (dE cf y x) Z 1 u of := by rw [hE]; exact hT1
  have HT1 := Lib.hid hT1'
  have H1 := Lib.hid h1
  have HTn1 := Lib.hid (show Tn s s wb W1 from (Tn.refl s wb).below hb1)
  have hlt0 := hT1.rs.lt
  have hbx := hT1.bx
  obtain ⟨o0, o1, o2⟩ := hT1.oc
  rw [hE]
  clear hE h h1 hT1 hb1 hT1' hun HEE HDE
  go_enter Tryz.func22, Tryz.ntmps22
  go_upto_region 1 with fail
  rw [← hZ] at hW1
  unfold zE at hW1
  rw [← hW1]
  clear hW1
  go_wp2_with fail
  clear hbx o0 o1 o2
  go_loopw [14] (fun iv wr => ∃ (i : Nat) (s1 : SE) (x1 : H) (y1 : DV), i ≤ 140 ∧ iv = .int .i64 (i : Int) ∧ DoT wb.heap.size wr (dE cf y1 x1) Z 1 u of ∧ DD w wr cf g s1 x1 y1 K ∧ Tn s s1 wb wr) (fun iv _ => 140 - (intOf iv).toNat)
  case atStart => exact ⟨0, s, x, y, by omega, rfl, HT1.out, H1.out, HTn1.out⟩
  case round =>
    clear HT1 H1 HTn1
    obtain ⟨i, s1, x1, y1, hi, rfl, hT, hDD, hTn⟩ := hrel
    have he' := dE_size cf y1 x1
    have hi' := dE_info cf y1 x1
    have ho' := dE_one cf y1 x1
    have HT := Lib.hid hT
    have HD := Lib.hid hDD
    have HTn := Lib.hid hTn
    by_cases hc : (i : Int) < 1
    · have hi1 : i + 1 ≤ 140 := by omega
      have pD := Lib.hid (hDD.remD u)
      have pP := Lib.hid (hDD.remP u)
      obtain ⟨d0, d1, d2, d3, d4, -⟩ := dE_cells hT.bx
      rw [hlo] at d1
      have hbx := hT.bx
      obtain ⟨o0, o1, o2⟩ := hT.oc
      have hun := hDD.un
      have HNX := Lib.hid (show ∀ w3 w5 y', Doc w3 y' (addHR cf x1 u) → DNew wr w3 y1 y' → ∀ V, Below w3.heap.size w3 V → HTurn V cf s1 (addHR cf x1 u) w5 → ∃ s', DD w w5 cf g s' (addHR cf x1 u) y' K ∧ Tn s1 s' wr w5 ∧ Tn s1 s' V w5 from fun w3 w5 y' hd hn V hV ht => by
        exact hDD.next (hd.below hV) ⟨hn.1.trans (hV.mono hn.1.size), hn.2⟩ ht (hDD.j.addR hu) hDD.ib.addR (K' := K) (by unfold addHR; split <;> exact hun))
      have HTA := Lib.hid (show ∀ w3 y', DNew wr w3 y1 y' → ∀ V, Below w3.heap.size w3 V → HAt V cf s1 x1 from fun w3 y' hn V hV => (hDD.ha.below hn.1).below hV)
      have HTT := Lib.hid (show (addHT cf x1 → addHN cf x1 = 0 ∧ addHC cf x1 = 2) ∧ (¬ addHT cf x1 → addHN cf x1 = ((x1.ks 1).length : Int) ∧ addHC cf x1 = 0) from ⟨fun h => ⟨if_pos h, if_pos h⟩, fun h => ⟨by unfold addHN; rw [if_neg h, hlo], if_neg h⟩⟩)
      have HDC := Lib.hid hDD.dc
      obtain ⟨l, hl⟩ : ∃ l, (x1.ks 1).length = l := ⟨_, rfl⟩
      rw [hl] at HTT d4
      have hlt1 := hT.rs.lt
      have hlow := hTn.1.size
      obtain ⟨E', hE'⟩ : ∃ E', dE cf y1 x1 = E' := ⟨_, rfl⟩
      have hT' := hT
      rw [hE'] at hbx pD he' hi' ho' hT'
      have HT2 := Lib.hid hT'
      clear hT hT' hDD hTn HT hE' hun hl
      by_cases hA : addHT cf x1
      · obtain ⟨e1, e3⟩ := HTT.out.1 hA
        have e2 : decide (¬ addHT cf x1) = false := decide_eq_false (fun h => h hA)
        rw [e2] at pD
        rw [e1, e3] at pP
        clear e1 e2 e3 HTT hA
        go_upto_region 18 with fail
        clear d0 d1 d2 d3 d4
        go_wp2_with (first | (refine wpList_load_blk (by rfl) 35 _ (by rfl) wb.heap.size (by rfl) _ E' _ hbx Tryz.underlying35 (by rfl) hi' ?_) | fail)
        refine (pD.out wr HDC.out).mono ?_
        rintro e w3 ⟨y2, rfl, hD3, hN3⟩
        have hT3 := HT2.out.below hN3.1
        have he1 := dE_size cf y2 (addHR cf x1 u)
        have hi1 := dE_info cf y2 (addHR cf x1 u)
        have ho1 := dE_one cf y2 (addHR cf x1 u)
        obtain ⟨E1, hE1⟩ : ∃ E1, dE cf y2 (addHR cf x1 u) = E1 := ⟨_, rfl⟩
        have HE1 := Lib.hid hE1
        rw [hE1] at he1 hi1 ho1 ⊢
        have hnew := Blk.new w3 35 zE
        have hzz : zE.size = E1.size := by rw [he1]; rfl
        have HD3 := Lib.hid hD3
        have HN3 := Lib.hid hN3
        have HT3 := Lib.hid hT3
        have hbl := (Below.refl w3.heap.size w3).alloc (Nat.le_refl _) (.cells zE 35)
        have hlt3 := hN3.1.size
        clear hD3 hN3 hT3 hE1 hbx o0 o1 o2
        go_upto_region 19 with (first | (refine wpList_store_blk (by rfl) 35 _ _ (by rfl) w3.heap.size E1 (by rfl) (by rfl) _ _ hnew hi1 hzz ho1 ?_; intro W5 hd5 ht5) | fail)
        have hb5 : Below w3.heap.size w3 W5 := hbl.trans (ht5.below hbl.size (fun k hk => by omega))
        have hT5 := HT3.out.below hb5
        have hA5 := HTA.out w3 y2 HN3.out W5 hb5
        have HA5 := Lib.hid hA5
        have HT5 := Lib.hid hT5
        have HB5 := Lib.hid hb5
        have HD5 := Lib.hid hd5
        obtain ⟨o0, o1, o2⟩ := hT5.oc
        clear hb5 hT5 hA5 ht5 hd5 hbl hnew o0 o2
        go_wp2_with fail
        refine (pP.out W5 HA5.out).mono ?_
        rintro e w6 ⟨rfl, htn⟩
        obtain ⟨s', hDD, hTn', hTv⟩ := HNX.out w3 w6 y2 HD3.out HN3.out W5 HB5.out htn
        have hT6 := HT5.out.tn HA5.out hTv
        have hb6 := hT6.bx
        have hd6 := hTv.blk HD5.out HA5.out (by decide)
        have HDD := Lib.hid hDD
        have HT6 := Lib.hid hT6
        have HTN := Lib.hid (HTn.out.trans hTn')
        have hzr : E'.size = E1.size := by rw [he', he1]
        clear hDD hTn' hTv hT6 htn o1
        go_upto_region 22 with fail
        go_wp2_with (first | (refine wpList_load_blk (by rfl) 35 _ (by rfl) w3.heap.size (by rfl) _ E1 _ hd6 Tryz.underlying35 (by rfl) hi1 ?_) | (refine wpList_store_blk (by rfl) 35 _ _ (by rfl) wb.heap.size E1 (by rfl) (by rfl) _ _ hb6 hi1 hzr ho1 ?_; intro W7 hd7 ht7) | fail)
        have HDF := Lib.hid (HDD.out.res hb6 (by omega) ht7)
        have HTF := Lib.hid (show DoT wb.heap.size W7 (dE cf y2 (addHR cf x1 u)) Z 1 u of from by rw [HE1.out]; exact ⟨hd7, HT6.out.op.touch ht7 (by omega), HT6.out.rs.touch ht7 (by omega)⟩)
        have HTL := Lib.hid (show Tn s s' wb W7 from ⟨HTN.out.1.trans ht7 (fun k hk => .inr (by omega)), HTN.out.2⟩)
        clear hd7 ht7 hb6 hd6
        go_roundw
        case rel => exact ⟨i + 1, s', _, y2, by omega, by go_num, HTF.out, HDF.out, HTL.out⟩
        case measure => simp [intOf]; omega
      · obtain ⟨e1, e3⟩ := HTT.out.2 hA
        have e2 : decide (¬ addHT cf x1) = true := decide_eq_true hA
        rw [e2] at pD
        rw [e1, e3] at pP
        clear e1 e2 e3 HTT hA
        go_upto_region 18 with fail
        clear d0 d1 d2 d3 d4
        go_wp2_with (first | (refine wpList_load_blk (by rfl) 35 _ (by rfl) wb.heap.size (by rfl) _ E' _ hbx Tryz.underlying35 (by rfl) hi' ?_) | fail)
        refine (pD.out wr HDC.out).mono ?_
        rintro e w3 ⟨y2, rfl, hD3, hN3⟩
        have hT3 := HT2.out.below hN3.1
        have he1 := dE_size cf y2 (addHR cf x1 u)
        have hi1 := dE_info cf y2 (addHR cf x1 u)
        have ho1 := dE_one cf y2 (addHR cf x1 u)
        obtain ⟨E1, hE1⟩ : ∃ E1, dE cf y2 (addHR cf x1 u) = E1 := ⟨_, rfl⟩
        have HE1 := Lib.hid hE1
        rw [hE1] at he1 hi1 ho1 ⊢
        have hnew := Blk.new w3 35 zE
        have hzz : zE.size = E1.size := by rw [he1]; rfl
        have HD3 := Lib.hid hD3
        have HN3 := Lib.hid hN3
        have HT3 := Lib.hid hT3
        have hbl := (Below.refl w3.heap.size w3).alloc (Nat.le_refl _) (.cells zE 35)
        have hlt3 := hN3.1.size
        clear hD3 hN3 hT3 hE1 hbx o0 o1 o2
        go_upto_region 19 with (first | (refine wpList_store_blk (by rfl) 35 _ _ (by rfl) w3.heap.size E1 (by rfl) (by rfl) _ _ hnew hi1 hzz ho1 ?_; intro W5 hd5 ht5) | fail)
        have hb5 : Below w3.heap.size w3 W5 := hbl.trans (ht5.below hbl.size (fun k hk => by omega))
        have hT5 := HT3.out.below hb5
        have hA5 := HTA.out w3 y2 HN3.out W5 hb5
        have HA5 := Lib.hid hA5
        have HT5 := Lib.hid hT5
        have HB5 := Lib.hid hb5
        have HD5 := Lib.hid hd5
        obtain ⟨o0, o1, o2⟩ := hT5.oc
        clear hb5 hT5 hA5 ht5 hd5 hbl hnew o0 o2
        go_wp2_with fail
        refine (pP.out W5 HA5.out).mono ?_
        rintro e w6 ⟨rfl, htn⟩
        obtain ⟨s', hDD, hTn', hTv⟩ := HNX.out w3 w6 y2 HD3.out HN3.out W5 HB5.out htn
        have hT6 := HT5.out.tn HA5.out hTv
        have hb6 := hT6.bx
        have hd6 := hTv.blk HD5.out HA5.out (by decide)
        have HDD := Lib.hid hDD
        have HT6 := Lib.hid hT6
        have HTN := Lib.hid (HTn.out.trans hTn')
        have hzr : E'.size = E1.size := by rw [he', he1]
        clear hDD hTn' hTv hT6 htn o1
        go_upto_region 22 with fail
        go_wp2_with (first | (refine wpList_load_blk (by rfl) 35 _ (by rfl) w3.heap.size (by rfl) _ E1 _ hd6 Tryz.underlying35 (by rfl) hi1 ?_) | (refine wpList_store_blk (by rfl) 35 _ _ (by rfl) wb.heap.size E1 (by rfl) (by rfl) _ _ hb6 hi1 hzr ho1 ?_; intro W7 hd7 ht7) | fail)
        have HDF := Lib.hid (HDD.out.res hb6 (by omega) ht7)
        have HTF := Lib.hid (show DoT wb.heap.size W7 (dE cf y2 (addHR cf x1 u)) Z 1 u of from by rw [HE1.out]; exact ⟨hd7, HT6.out.op.touch ht7 (by omega), HT6.out.rs.touch ht7 (by omega)⟩)
        have HTL := Lib.hid (show Tn s s' wb W7 from ⟨HTN.out.1.trans ht7 (fun k hk => .inr (by omega)), HTN.out.2⟩)
        clear hd7 ht7 hb6 hd6
        go_roundw
        case rel => exact ⟨i + 1, s', _, y2, by omega, by go_num, HTF.out, HDF.out, HTL.out⟩
        case measure => simp [intOf]; omega
    · have hbx := hT.bx
      have hrs := hT.rs
      have hlow := hTn.1.size
      have hzr : Z.size = (dE cf y1 x1).size := by rw [hZs, he']
      obtain ⟨E', hE'⟩ : ∃ E', dE cf y1 x1 = E' := ⟨_, rfl⟩
      have HE' := Lib.hid hE'
      rw [hE'] at hbx he' hi' ho' hzr
      clear hT hDD hTn HT hE'
      go_wp2_with (first | (refine wpList_load_blk (by rfl) 35 _ (by rfl) wb.heap.size (by rfl) _ E' _ hbx Tryz.underlying35 (by rfl) hi' ?_) | (refine wpList_store_blk (by rfl) 35 _ _ (by rfl) (wb.heap.size + 2) E' (by rfl) (by rfl) _ _ hrs hi' hzr ho' ?_; intro W7 hd7 ht7) | fail)
      refine bodyPost_ret (v := .tuple #[.agg E', .bool true]) (pair_resultsD Tryz.results22 _ _ (wb.heap.size + 2) _ E' _ hd7 hi' (by rfl) (by rfl)) rfl ?_
      exact ⟨s1, x1, y1, by rw [HE'.out], (HD.out.up).res hrs (by omega) ht7, ⟨HTn.out.1.trans ht7 (fun k hk => .inr (by omega)), HTn.out.2⟩⟩
set_option maxRecDepth 100000 in
set_option maxHeartbeats 8000000 in
theorem do3l0a_any (w wb : World) (cf : Cfg) (g : Nat) (s : SE) (x : H) (y : DV) (K : Nat) (h : DD w wb cf g s x y K) (u : Nat) (of : Int) (hu : u < 65536) (hlo : cf.lo = 0) (hof : 140 < of) :
    Calls Tryz.prog 22 #[.pointer (some ⟨g, 0, none⟩), .agg (dE cf y x), .agg #[.int .i64 3, .int .u16 (u : Int), .int .i64 of]] wb (DoP w wb cf g s (K + 1)) := by
  obtain ⟨Z, hZ⟩ : ∃ Z, zE = Z := ⟨_, rfl⟩
  have hZs : Z.size = 12 := by rw [← hZ]; exact zE_size
  have hes := dE_size cf y x
  have hei := dE_info cf y x
  have heo := dE_one cf y x
  have HDE := Lib.hid (fun (W : World) (b : Nat) (hb : Blk W b 35 (dE cf y x)) => dE_cells hb)
  obtain ⟨E, hE⟩ : ∃ E, dE cf y x = E := ⟨_, rfl⟩
  have HEE := Lib.hid hE
  rw [hE] at hes hei heo HDE
  obtain ⟨W1, hW1⟩ : ∃ W1, W1 = ((wb.alloc (.cells E 35)).alloc (.cells #[.int .i64 3, .int .u16 (u : Int), .int .i64 of] 72)).alloc (.cells Z 35) := ⟨_, rfl⟩
  have hT1 : DoT wb.heap.size W1 E Z 3 u of := by rw [hW1]; exact doT_start wb E Z _ _ _
  have hb1 : Below wb.heap.size wb W1 := by rw [hW1]; exact below3 _ _ _ _
  have h1 := h.below hb1
  have hlo0 := h.lo.size
  have hun := h.un
  have hT1' : DoT wb.heap.size W1 (dE cf y x) Z 3 u of := by rw [hE]; exact hT1
  have HT1 := Lib.hid hT1'
  have H1 := Lib.hid h1
  have HTn1 := Lib.hid (show Tn s s wb W1 from (Tn.refl s wb).below hb1)
  have hlt0 := hT1.rs.lt
  have hbx := hT1.bx
  obtain ⟨o0, o1, o2⟩ := hT1.oc
  rw [hE]
  clear hE h h1 hT1 hb1 hT1' hun HEE HDE
  go_enter Tryz.func22, Tryz.ntmps22
  go_upto_region 1 with fail
  rw [← hZ] at hW1
  unfold zE at hW1
  rw [← hW1]
  clear hW1
  go_wp2_with fail
  clear hbx o0 o1 o2 hof
  go_loopw [14] (fun iv wr => ∃ (i : Nat) (s1 : SE) (x1 : H) (y1 : DV), i ≤ 140 ∧ iv = .int .i64 (i : Int) ∧ DoT wb.heap.size wr (dE cf y1 x1) Z 3 u of ∧ DD w wr cf g s1 x1 y1 K ∧ Tn s s1 wb wr) (fun iv _ => 140 - (intOf iv).toNat)
  case atStart => exact ⟨0, s, x, y, by omega, rfl, HT1.out, H1.out, HTn1.out⟩
  case round =>
    clear HT1 H1 HTn1
    obtain ⟨i, s1, x1, y1, hi, rfl, hT, hDD, hTn⟩ := hrel
    have he' := dE_size cf y1 x1
    have hi' := dE_info cf y1 x1
    have ho' := dE_one cf y1 x1
    have HT := Lib.hid hT
    have HD := Lib.hid hDD
    have HTn := Lib.hid hTn
    by_cases hc : (i : Int) < 140
    · have hi1 : i + 1 ≤ 140 := by omega
      have pD := Lib.hid (hDD.remD u)
      have pP := Lib.hid (hDD.remP u)
      obtain ⟨d0, d1, d2, d3, d4, -⟩ := dE_cells hT.bx
      rw [hlo] at d1
      have hbx := hT.bx
      obtain ⟨o0, o1, o2⟩ := hT.oc
      have hun := hDD.un
      have HNX := Lib.hid (show ∀ w3 w5 y', Doc w3 y' (addHR cf x1 u) → DNew wr w3 y1 y' → ∀ V, Below w3.heap.size w3 V → HTurn V cf s1 (addHR cf x1 u) w5 → ∃ s', DD w w5 cf g s' (addHR cf x1 u) y' K ∧ Tn s1 s' wr w5 ∧ Tn s1 s' V w5 from fun w3 w5 y' hd hn V hV ht => by
        exact hDD.next (hd.below hV) ⟨hn.1.trans (hV.mono hn.1.size), hn.2⟩ ht (hDD.j.addR hu) hDD.ib.addR (K' := K) (by unfold addHR; split <;> exact hun))
      have HTA := Lib.hid (show ∀ w3 y', DNew wr w3 y1 y' → ∀ V, Below w3.heap.size w3 V → HAt V cf s1 x1 from fun w3 y' hn V hV => (hDD.ha.below hn.1).below hV)
      have HTT := Lib.hid (show (addHT cf x1 → addHN cf x1 = 0 ∧ addHC cf x1 = 2) ∧ (¬ addHT cf x1 → addHN cf x1 = ((x1.ks 1).length : Int) ∧ addHC cf x1 = 0) from ⟨fun h => ⟨if_pos h, if_pos h⟩, fun h => ⟨by unfold addHN; rw [if_neg h, hlo], if_neg h⟩⟩)
      have HDC := Lib.hid hDD.dc
      obtain ⟨l, hl⟩ : ∃ l, (x1.ks 1).length = l := ⟨_, rfl⟩
      rw [hl] at HTT d4
      have hlt1 := hT.rs.lt
      have hlow := hTn.1.size
      obtain ⟨E', hE'⟩ : ∃ E', dE cf y1 x1 = E' := ⟨_, rfl⟩
      have hT' := hT
      rw [hE'] at hbx pD he' hi' ho' hT'
      have HT2 := Lib.hid hT'
      clear hT hT' hDD hTn HT hE' hun hl
      by_cases hA : addHT cf x1
      · obtain ⟨e1, e3⟩ := HTT.out.1 hA
        have e2 : decide (¬ addHT cf x1) = false := decide_eq_false (fun h => h hA)
        rw [e2] at pD
        rw [e1, e3] at pP
        clear e1 e2 e3 HTT hA
        go_upto_region 18 with fail
        clear d0 d1 d2 d3 d4
        go_wp2_with (first | (refine wpList_load_blk (by rfl) 35 _ (by rfl) wb.heap.size (by rfl) _ E' _ hbx Tryz.underlying35 (by rfl) hi' ?_) | fail)
        refine (pD.out wr HDC.out).mono ?_
        rintro e w3 ⟨y2, rfl, hD3, hN3⟩
        have hT3 := HT2.out.below hN3.1
        have he1 := dE_size cf y2 (addHR cf x1 u)
        have hi1 := dE_info cf y2 (addHR cf x1 u)
        have ho1 := dE_one cf y2 (addHR cf x1 u)
        obtain ⟨E1, hE1⟩ : ∃ E1, dE cf y2 (addHR cf x1 u) = E1 := ⟨_, rfl⟩
        have HE1 := Lib.hid hE1
        rw [hE1] at he1 hi1 ho1 ⊢
        have hnew := Blk.new w3 35 zE
        have hzz : zE.size = E1.size := by rw [he1]; rfl
        have HD3 := Lib.hid hD3
        have HN3 := Lib.hid hN3
        have HT3 := Lib.hid hT3
        have hbl := (Below.refl w3.heap.size w3).alloc (Nat.le_refl _) (.cells zE 35)
        have hlt3 := hN3.1.size
        clear hD3 hN3 hT3 hE1 hbx o0 o1 o2
        go_upto_region 19 with (first | (refine wpList_store_blk (by rfl) 35 _ _ (by rfl) w3.heap.size E1 (by rfl) (by rfl) _ _ hnew hi1 hzz ho1 ?_; intro W5 hd5 ht5) | fail)
        have hb5 : Below w3.heap.size w3 W5 := hbl.trans (ht5.below hbl.size (fun k hk => by omega))
        have hT5 := HT3.out.below hb5
        have hA5 := HTA.out w3 y2 HN3.out W5 hb5
        have HA5 := Lib.hid hA5
        have HT5 := Lib.hid hT5
        have HB5 := Lib.hid hb5
        have HD5 := Lib.hid hd5
        obtain ⟨o0, o1, o2⟩ := hT5.oc
        clear hb5 hT5 hA5 ht5 hd5 hbl hnew o0 o2
        go_wp2_with fail
        refine (pP.out W5 HA5.out).mono ?_
        rintro e w6 ⟨rfl, htn⟩
        obtain ⟨s', hDD, hTn', hTv⟩ := HNX.out w3 w6 y2 HD3.out HN3.out W5 HB5.out htn
        have hT6 := HT5.out.tn HA5.out hTv
        have hb6 := hT6.bx
        have hd6 := hTv.blk HD5.out HA5.out (by decide)
        have HDD := Lib.hid hDD
        have HT6 := Lib.hid hT6
        have HTN := Lib.hid (HTn.out.trans hTn')
        have hzr : E'.size = E1.size := by rw [he', he1]
        clear hDD hTn' hTv hT6 htn o1
        go_upto_region 22 with fail
        go_wp2_with (first | (refine wpList_load_blk (by rfl) 35 _ (by rfl) w3.heap.size (by rfl) _ E1 _ hd6 Tryz.underlying35 (by rfl) hi1 ?_) | (refine wpList_store_blk (by rfl) 35 _ _ (by rfl) wb.heap.size E1 (by rfl) (by rfl) _ _ hb6 hi1 hzr ho1 ?_; intro W7 hd7 ht7) | fail)
        have HDF := Lib.hid (HDD.out.res hb6 (by omega) ht7)
        have HTF := Lib.hid (show DoT wb.heap.size W7 (dE cf y2 (addHR cf x1 u)) Z 3 u of from by rw [HE1.out]; exact ⟨hd7, HT6.out.op.touch ht7 (by omega), HT6.out.rs.touch ht7 (by omega)⟩)
        have HTL := Lib.hid (show Tn s s' wb W7 from ⟨HTN.out.1.trans ht7 (fun k hk => .inr (by omega)), HTN.out.2⟩)
        clear hd7 ht7 hb6 hd6
        go_roundw
        case rel => exact ⟨i + 1, s', _, y2, by omega, by go_num, HTF.out, HDF.out, HTL.out⟩
        case measure => simp [intOf]; omega
      · obtain ⟨e1, e3⟩ := HTT.out.2 hA
        have e2 : decide (¬ addHT cf x1) = true := decide_eq_true hA
        rw [e2] at pD
        rw [e1, e3] at pP
        clear e1 e2 e3 HTT hA
        go_upto_region 18 with fail
        clear d0 d1 d2 d3 d4
        go_wp2_with (first | (refine wpList_load_blk (by rfl) 35 _ (by rfl) wb.heap.size (by rfl) _ E' _ hbx Tryz.underlying35 (by rfl) hi' ?_) | fail)
        refine (pD.out wr HDC.out).mono ?_
        rintro e w3 ⟨y2, rfl, hD3, hN3⟩
        have hT3 := HT2.out.below hN3.1
        have he1 := dE_size cf y2 (addHR cf x1 u)
        have hi1 := dE_info cf y2 (addHR cf x1 u)
        have ho1 := dE_one cf y2 (addHR cf x1 u)
        obtain ⟨E1, hE1⟩ : ∃ E1, dE cf y2 (addHR cf x1 u) = E1 := ⟨_, rfl⟩
        have HE1 := Lib.hid hE1
        rw [hE1] at he1 hi1 ho1 ⊢
        have hnew := Blk.new w3 35 zE
        have hzz : zE.size = E1.size := by rw [he1]; rfl
        have HD3 := Lib.hid hD3
        have HN3 := Lib.hid hN3
        have HT3 := Lib.hid hT3
        have hbl := (Below.refl w3.heap.size w3).alloc (Nat.le_refl _) (.cells zE 35)
        have hlt3 := hN3.1.size
        clear hD3 hN3 hT3 hE1 hbx o0 o1 o2
        go_upto_region 19 with (first | (refine wpList_store_blk (by rfl) 35 _ _ (by rfl) w3.heap.size E1 (by rfl) (by rfl) _ _ hnew hi1 hzz ho1 ?_; intro W5 hd5 ht5) | fail)
        have hb5 : Below w3.heap.size w3 W5 := hbl.trans (ht5.below hbl.size (fun k hk => by omega))
        have hT5 := HT3.out.below hb5
        have hA5 := HTA.out w3 y2 HN3.out W5 hb5
        have HA5 := Lib.hid hA5
        have HT5 := Lib.hid hT5
        have HB5 := Lib.hid hb5
        have HD5 := Lib.hid hd5
        obtain ⟨o0, o1, o2⟩ := hT5.oc
        clear hb5 hT5 hA5 ht5 hd5 hbl hnew o0 o2
        go_wp2_with fail
        refine (pP.out W5 HA5.out).mono ?_
        rintro e w6 ⟨rfl, htn⟩
        obtain ⟨s', hDD, hTn', hTv⟩ := HNX.out w3 w6 y2 HD3.out HN3.out W5 HB5.out htn
        have hT6 := HT5.out.tn HA5.out hTv
        have hb6 := hT6.bx
        have hd6 := hTv.blk HD5.out HA5.out (by decide)
        have HDD := Lib.hid hDD
        have HT6 := Lib.hid hT6
        have HTN := Lib.hid (HTn.out.trans hTn')
        have hzr : E'.size = E1.size := by rw [he', he1]
        clear hDD hTn' hTv hT6 htn o1
        go_upto_region 22 with fail
        go_wp2_with (first | (refine wpList_load_blk (by rfl) 35 _ (by rfl) w3.heap.size (by rfl) _ E1 _ hd6 Tryz.underlying35 (by rfl) hi1 ?_) | (refine wpList_store_blk (by rfl) 35 _ _ (by rfl) wb.heap.size E1 (by rfl) (by rfl) _ _ hb6 hi1 hzr ho1 ?_; intro W7 hd7 ht7) | fail)
        have HDF := Lib.hid (HDD.out.res hb6 (by omega) ht7)
        have HTF := Lib.hid (show DoT wb.heap.size W7 (dE cf y2 (addHR cf x1 u)) Z 3 u of from by rw [HE1.out]; exact ⟨hd7, HT6.out.op.touch ht7 (by omega), HT6.out.rs.touch ht7 (by omega)⟩)
        have HTL := Lib.hid (show Tn s s' wb W7 from ⟨HTN.out.1.trans ht7 (fun k hk => .inr (by omega)), HTN.out.2⟩)
        clear hd7 ht7 hb6 hd6
        go_roundw
        case rel => exact ⟨i + 1, s', _, y2, by omega, by go_num, HTF.out, HDF.out, HTL.out⟩
        case measure => simp [intOf]; omega
    · have hbx := hT.bx
      have hrs := hT.rs
      have hlow := hTn.1.size
      have hzr : Z.size = (dE cf y1 x1).size := by rw [hZs, he']
      obtain ⟨E', hE'⟩ : ∃ E', dE cf y1 x1 = E' := ⟨_, rfl⟩
      have HE' := Lib.hid hE'
      rw [hE'] at hbx he' hi' ho' hzr
      clear hT hDD hTn HT hE'
      go_wp2_with (first | (refine wpList_load_blk (by rfl) 35 _ (by rfl) wb.heap.size (by rfl) _ E' _ hbx Tryz.underlying35 (by rfl) hi' ?_) | (refine wpList_store_blk (by rfl) 35 _ _ (by rfl) (wb.heap.size + 2) E' (by rfl) (by rfl) _ _ hrs hi' hzr ho' ?_; intro W7 hd7 ht7) | fail)
      refine bodyPost_ret (v := .tuple #[.agg E', .bool true]) (pair_resultsD Tryz.results22 _ _ (wb.heap.size + 2) _ E' _ hd7 hi' (by rfl) (by rfl)) rfl ?_
      exact ⟨s1, x1, y1, by rw [HE'.out], (HD.out.up).res hrs (by omega) ht7, ⟨HTn.out.1.trans ht7 (fun k hk => .inr (by omega)), HTn.out.2⟩⟩
set_option maxRecDepth 100000 in
set_option maxHeartbeats 8000000 in
theorem do3l0b_any (w wb : World) (cf : Cfg) (g : Nat) (s : SE) (x : H) (y : DV) (K : Nat) (h : DD w wb cf g s x y K) (u : Nat) (of : Int) (hu : u < 65536) (hlo : cf.lo = 0) (hof : ¬ 140 < of) :
    Calls Tryz.prog 22 #[.pointer (some ⟨g, 0, none⟩), .agg (dE cf y x), .agg #[.int .i64 3, .int .u16 (u : Int), .int .i64 of]] wb (DoP w wb cf g s (K + 1)) := by
  obtain ⟨Z, hZ⟩ : ∃ Z, zE = Z := ⟨_, rfl⟩
  have hZs : Z.size = 12 := by rw [← hZ]; exact zE_size
  have hes := dE_size cf y x
  have hei := dE_info cf y x
  have heo := dE_one cf y x
  have HDE := Lib.hid (fun (W : World) (b : Nat) (hb : Blk W b 35 (dE cf y x)) => dE_cells hb)
  obtain ⟨E, hE⟩ : ∃ E, dE cf y x = E := ⟨_, rfl⟩
  have HEE := Lib.hid hE
  rw [hE] at hes hei heo HDE
  obtain ⟨W1, hW1⟩ : ∃ W1, W1 = ((wb.alloc (.cells E 35)).alloc (.cells #[.int .i64 3, .int .u16 (u : Int), .int .i64 of] 72)).alloc (.cells Z 35) := ⟨_, rfl⟩
  have hT1 : DoT wb.heap.size W1 E Z 3 u of := by rw [hW1]; exact doT_start wb E Z _ _ _
  have hb1 : Below wb.heap.size wb W1 := by rw [hW1]; exact below3 _ _ _ _
  have h1 := h.below hb1
  have hlo0 := h.lo.size
  have hun := h.un
  have hT1' : DoT wb.heap.size W1 (dE cf y x) Z 3 u of := by rw [hE]; exact hT1
  have HT1 := Lib.hid hT1'
  have H1 := Lib.hid h1
  have HTn1 := Lib.hid (show Tn s s wb W1 from (Tn.refl s wb).below hb1)
  have hlt0 := hT1.rs.lt
  have hbx := hT1.bx
  obtain ⟨o0, o1, o2⟩ := hT1.oc
  rw [hE]
  clear hE h h1 hT1 hb1 hT1' hun HEE HDE
  go_enter Tryz.func22, Tryz.ntmps22
  go_upto_region 1 with fail
  rw [← hZ] at hW1
  unfold zE at hW1
  rw [← hW1]
  clear hW1
  go_wp2_with fail
  clear hbx o0 o1 o2
  go_loopw [14] (fun iv wr => ∃ (i : Nat) (s1 : SE) (x1 : H) (y1 : DV), i ≤ 140 ∧ iv = .int .i64 (i : Int) ∧ DoT wb.heap.size wr (dE cf y1 x1) Z 3 u of ∧ DD w wr cf g s1 x1 y1 K ∧ Tn s s1 wb wr) (fun iv _ => 140 - (intOf iv).toNat)
  case atStart => exact ⟨0, s, x, y, by omega, rfl, HT1.out, H1.out, HTn1.out⟩
  case round =>
    clear HT1 H1 HTn1
    obtain ⟨i, s1, x1, y1, hi, rfl, hT, hDD, hTn⟩ := hrel
    have he' := dE_size cf y1 x1
    have hi' := dE_info cf y1 x1
    have ho' := dE_one cf y1 x1
    have HT := Lib.hid hT
    have HD := Lib.hid hDD
    have HTn := Lib.hid hTn
    by_cases hc : (i : Int) < of
    · have hi1 : i + 1 ≤ 140 := by omega
      have pD := Lib.hid (hDD.remD u)
      have pP := Lib.hid (hDD.remP u)
      obtain ⟨d0, d1, d2, d3, d4, -⟩ := dE_cells hT.bx
      rw [hlo] at d1
      have hbx := hT.bx
      obtain ⟨o0, o1, o2⟩ := hT.oc
      have hun := hDD.un
      have HNX := Lib.hid (show ∀ w3 w5 y', Doc w3 y' (addHR cf x1 u) → DNew wr w3 y1 y' → ∀ V, Below w3.heap.size w3 V → HTurn V cf s1 (addHR cf x1 u) w5 → ∃ s', DD w w5 cf g s' (addHR cf x1 u) y' K ∧ Tn s1 s' wr w5 ∧ Tn s1 s' V w5 from fun w3 w5 y' hd hn V hV ht => by
        exact hDD.next (hd.below hV) ⟨hn.1.trans (hV.mono hn.1.size), hn.2⟩ ht (hDD.j.addR hu) hDD.ib.addR (K' := K) (by unfold addHR; split <;> exact hun))
      have HTA := Lib.hid (show ∀ w3 y', DNew wr w3 y1 y' → ∀ V, Below w3.heap.size w3 V → HAt V cf s1 x1 from fun w3 y' hn V hV => (hDD.ha.below hn.1).below hV)
      have HTT := Lib.hid (show (addHT cf x1 → addHN cf x1 = 0 ∧ addHC cf x1 = 2) ∧ (¬ addHT cf x1 → addHN cf x1 = ((x1.ks 1).length : Int) ∧ addHC cf x1 = 0) from ⟨fun h => ⟨if_pos h, if_pos h⟩, fun h => ⟨by unfold addHN; rw [if_neg h, hlo], if_neg h⟩⟩)
      have HDC := Lib.hid hDD.dc
      obtain ⟨l, hl⟩ : ∃ l, (x1.ks 1).length = l := ⟨_, rfl⟩
      rw [hl] at HTT d4
      have hlt1 := hT.rs.lt
      have hlow := hTn.1.size
      obtain ⟨E', hE'⟩ : ∃ E', dE cf y1 x1 = E' := ⟨_, rfl⟩
      have hT' := hT
      rw [hE'] at hbx pD he' hi' ho' hT'
      have HT2 := Lib.hid hT'
      clear hT hT' hDD hTn HT hE' hun hl
      by_cases hA : addHT cf x1
      · obtain ⟨e1, e3⟩ := HTT.out.1 hA
        have e2 : decide (¬ addHT cf x1) = false := decide_eq_false (fun h => h hA)
        rw [e2] at pD
        rw [e1, e3] at pP
        clear e1 e2 e3 HTT hA
        go_upto_region 18 with fail
        clear d0 d1 d2 d3 d4
        go_wp2_with (first | (refine wpList_load_blk (by rfl) 35 _ (by rfl) wb.heap.size (by rfl) _ E' _ hbx Tryz.underlying35 (by rfl) hi' ?_) | fail)
        refine (pD.out wr HDC.out).mono ?_
        rintro e w3 ⟨y2, rfl, hD3, hN3⟩
        have hT3 := HT2.out.below hN3.1
        have he1 := dE_size cf y2 (addHR cf x1 u)
        have hi1 := dE_info cf y2 (addHR cf x1 u)
        have ho1 := dE_one cf y2 (addHR cf x1 u)
        obtain ⟨E1, hE1⟩ : ∃ E1, dE cf y2 (addHR cf x1 u) = E1 := ⟨_, rfl⟩
        have HE1 := Lib.hid hE1
        rw [hE1] at he1 hi1 ho1 ⊢
        have hnew := Blk.new w3 35 zE
        have hzz : zE.size = E1.size := by rw [he1]; rfl
        have HD3 := Lib.hid hD3
        have HN3 := Lib.hid hN3
        have HT3 := Lib.hid hT3
        have hbl := (Below.refl w3.heap.size w3).alloc (Nat.le_refl _) (.cells zE 35)
        have hlt3 := hN3.1.size
        clear hD3 hN3 hT3 hE1 hbx o0 o1 o2
        go_upto_region 19 with (first | (refine wpList_store_blk (by rfl) 35 _ _ (by rfl) w3.heap.size E1 (by rfl) (by rfl) _ _ hnew hi1 hzz ho1 ?_; intro W5 hd5 ht5) | fail)
        have hb5 : Below w3.heap.size w3 W5 := hbl.trans (ht5.below hbl.size (fun k hk => by omega))
        have hT5 := HT3.out.below hb5
        have hA5 := HTA.out w3 y2 HN3.out W5 hb5
        have HA5 := Lib.hid hA5
        have HT5 := Lib.hid hT5
        have HB5 := Lib.hid hb5
        have HD5 := Lib.hid hd5
        obtain ⟨o0, o1, o2⟩ := hT5.oc
        clear hb5 hT5 hA5 ht5 hd5 hbl hnew o0 o2
        go_wp2_with fail
        refine (pP.out W5 HA5.out).mono ?_
        rintro e w6 ⟨rfl, htn⟩
        obtain ⟨s', hDD, hTn', hTv⟩ := HNX.out w3 w6 y2 HD3.out HN3.out W5 HB5.out htn
        have hT6 := HT5.out.tn HA5.out hTv
        have hb6 := hT6.bx
        have hd6 := hTv.blk HD5.out HA5.out (by decide)
        have HDD := Lib.hid hDD
        have HT6 := Lib.hid hT6
        have HTN := Lib.hid (HTn.out.trans hTn')
        have hzr : E'.size = E1.size := by rw [he', he1]
        clear hDD hTn' hTv hT6 htn o1
        go_upto_region 22 with fail
        go_wp2_with (first | (refine wpList_load_blk (by rfl) 35 _ (by rfl) w3.heap.size (by rfl) _ E1 _ hd6 Tryz.underlying35 (by rfl) hi1 ?_) | (refine wpList_store_blk (by rfl) 35 _ _ (by rfl) wb.heap.size E1 (by rfl) (by rfl) _ _ hb6 hi1 hzr ho1 ?_; intro W7 hd7 ht7) | fail)
        have HDF := Lib.hid (HDD.out.res hb6 (by omega) ht7)
        have HTF := Lib.hid (show DoT wb.heap.size W7 (dE cf y2 (addHR cf x1 u)) Z 3 u of from by rw [HE1.out]; exact ⟨hd7, HT6.out.op.touch ht7 (by omega), HT6.out.rs.touch ht7 (by omega)⟩)
        have HTL := Lib.hid (show Tn s s' wb W7 from ⟨HTN.out.1.trans ht7 (fun k hk => .inr (by omega)), HTN.out.2⟩)
        clear hd7 ht7 hb6 hd6
        go_roundw
        case rel => exact ⟨i + 1, s', _, y2, by omega, by go_num, HTF.out, HDF.out, HTL.out⟩
        case measure => simp [intOf]; omega
      · obtain ⟨e1, e3⟩ := HTT.out.2 hA
        have e2 : decide (¬ addHT cf x1) = true := decide_eq_true hA
        rw [e2] at pD
        rw [e1, e3] at pP
        clear e1 e2 e3 HTT hA
        go_upto_region 18 with fail
        clear d0 d1 d2 d3 d4
        go_wp2_with (first | (refine wpList_load_blk (by rfl) 35 _ (by rfl) wb.heap.size (by rfl) _ E' _ hbx Tryz.underlying35 (by rfl) hi' ?_) | fail)
        refine (pD.out wr HDC.out).mono ?_
        rintro e w3 ⟨y2, rfl, hD3, hN3⟩
        have hT3 := HT2.out.below hN3.1
        have he1 := dE_size cf y2 (addHR cf x1 u)
        have hi1 := dE_info cf y2 (addHR cf x1 u)
        have ho1 := dE_one cf y2 (addHR cf x1 u)
        obtain ⟨E1, hE1⟩ : ∃ E1, dE cf y2 (addHR cf x1 u) = E1 := ⟨_, rfl⟩
        have HE1 := Lib.hid hE1
        rw [hE1] at he1 hi1 ho1 ⊢
        have hnew := Blk.new w3 35 zE
        have hzz : zE.size = E1.size := by rw [he1]; rfl
        have HD3 := Lib.hid hD3
        have HN3 := Lib.hid hN3
        have HT3 := Lib.hid hT3
        have hbl := (Below.refl w3.heap.size w3).alloc (Nat.le_refl _) (.cells zE 35)
        have hlt3 := hN3.1.size
        clear hD3 hN3 hT3 hE1 hbx o0 o1 o2
        go_upto_region 19 with (first | (refine wpList_store_blk (by rfl) 35 _ _ (by rfl) w3.heap.size E1 (by rfl) (by rfl) _ _ hnew hi1 hzz ho1 ?_; intro W5 hd5 ht5) | fail)
        have hb5 : Below w3.heap.size w3 W5 := hbl.trans (ht5.below hbl.size (fun k hk => by omega))
        have hT5 := HT3.out.below hb5
        have hA5 := HTA.out w3 y2 HN3.out W5 hb5
        have HA5 := Lib.hid hA5
        have HT5 := Lib.hid hT5
        have HB5 := Lib.hid hb5
        have HD5 := Lib.hid hd5
        obtain ⟨o0, o1, o2⟩ := hT5.oc
        clear hb5 hT5 hA5 ht5 hd5 hbl hnew o0 o2
        go_wp2_with fail
        refine (pP.out W5 HA5.out).mono ?_
        rintro e w6 ⟨rfl, htn⟩
        obtain ⟨s', hDD, hTn', hTv⟩ := HNX.out w3 w6 y2 HD3.out HN3.out W5 HB5.out htn
        have hT6 := HT5.out.tn HA5.out hTv
        have hb6 := hT6.bx
        have hd6 := hTv.blk HD5.out HA5.out (by decide)
        have HDD := Lib.hid hDD
        have HT6 := Lib.hid hT6
        have HTN := Lib.hid (HTn.out.trans hTn')
        have hzr : E'.size = E1.size := by rw [he', he1]
        clear hDD hTn' hTv hT6 htn o1
        go_upto_region 22 with fail
        go_wp2_with (first | (refine wpList_load_blk (by rfl) 35 _ (by rfl) w3.heap.size (by rfl) _ E1 _ hd6 Tryz.underlying35 (by rfl) hi1 ?_) | (refine wpList_store_blk (by rfl) 35 _ _ (by rfl) wb.heap.size E1 (by rfl) (by rfl) _ _ hb6 hi1 hzr ho1 ?_; intro W7 hd7 ht7) | fail)
        have HDF := Lib.hid (HDD.out.res hb6 (by omega) ht7)
        have HTF := Lib.hid (show DoT wb.heap.size W7 (dE cf y2 (addHR cf x1 u)) Z 3 u of from by rw [HE1.out]; exact ⟨hd7, HT6.out.op.touch ht7 (by omega), HT6.out.rs.touch ht7 (by omega)⟩)
        have HTL := Lib.hid (show Tn s s' wb W7 from ⟨HTN.out.1.trans ht7 (fun k hk => .inr (by omega)), HTN.out.2⟩)
        clear hd7 ht7 hb6 hd6
        go_roundw
        case rel => exact ⟨i + 1, s', _, y2, by omega, by go_num, HTF.out, HDF.out, HTL.out⟩
        case measure => simp [intOf]; omega
    · have hbx := hT.bx
      have hrs := hT.rs
      have hlow := hTn.1.size
      have hzr : Z.size = (dE cf y1 x1).size := by rw [hZs, he']
      obtain ⟨E', hE'⟩ : ∃ E', dE cf y1 x1 = E' := ⟨_, rfl⟩
      have HE' := Lib.hid hE'
      rw [hE'] at hbx he' hi' ho' hzr
      clear hT hDD hTn HT hE'
      go_wp2_with (first | (refine wpList_load_blk (by rfl) 35 _ (by rfl) wb.heap.size (by rfl) _ E' _ hbx Tryz.underlying35 (by rfl) hi' ?_) | (refine wpList_store_blk (by rfl) 35 _ _ (by rfl) (wb.heap.size + 2) E' (by rfl) (by rfl) _ _ hrs hi' hzr ho' ?_; intro W7 hd7 ht7) | fail)
      refine bodyPost_ret (v := .tuple #[.agg E', .bool true]) (pair_resultsD Tryz.results22 _ _ (wb.heap.size + 2) _ E' _ hd7 hi' (by rfl) (by rfl)) rfl ?_
      exact ⟨s1, x1, y1, by rw [HE'.out], (HD.out.up).res hrs (by omega) ht7, ⟨HTn.out.1.trans ht7 (fun k hk => .inr (by omega)), HTn.out.2⟩⟩
set_option maxRecDepth 100000 in
set_option maxHeartbeats 8000000 in
theorem do1l1_any (w wb : World) (cf : Cfg) (g : Nat) (s : SE) (x : H) (y : DV) (K : Nat) (h : DD w wb cf g s x y K) (u : Nat) (of : Int) (hu : u < 65536) (hlo : cf.lo = 1) :
    Calls Tryz.prog 22 #[.pointer (some ⟨g, 0, none⟩), .agg (dE cf y x), .agg #[.int .i64 1, .int .u16 (u : Int), .int .i64 of]] wb (DoP w wb cf g s (K + 1)) := by
  obtain ⟨Z, hZ⟩ : ∃ Z, zE = Z := ⟨_, rfl⟩
  have hZs : Z.size = 12 := by rw [← hZ]; exact zE_size
  have hes := dE_size cf y x
  have hei := dE_info cf y x
  have heo := dE_one cf y x
  have HDE := Lib.hid (fun (W : World) (b : Nat) (hb : Blk W b 35 (dE cf y x)) => dE_cells hb)
  obtain ⟨E, hE⟩ : ∃ E, dE cf y x = E := ⟨_, rfl⟩
  have HEE := Lib.hid hE
  rw [hE] at hes hei heo HDE
  obtain ⟨W1, hW1⟩ : ∃ W1, W1 = ((wb.alloc (.cells E 35)).alloc (.cells #[.int .i64 1, .int .u16 (u : Int), .int .i64 of] 72)).alloc (.cells Z 35) := ⟨_, rfl⟩
  have hT1 : DoT wb.heap.size W1 E Z 1 u of := by rw [hW1]; exact doT_start wb E Z _ _ _
  have hb1 : Below wb.heap.size wb W1 := by rw [hW1]; exact below3 _ _ _ _
  have h1 := h.below hb1
  have hlo0 := h.lo.size
  have hun := h.un
  have hT1' : DoT wb.heap.size W1 (dE cf y x) Z 1 u of := by rw [hE]; exact hT1
  have HT1 := Lib.hid hT1'
  have H1 := Lib.hid h1
  have HTn1 := Lib.hid (show Tn s s wb W1 from (Tn.refl s wb).below hb1)
  have hlt0 := hT1.rs.lt
  have hbx := hT1.bx
  obtain ⟨o0, o1, o2⟩ := hT1.oc
  rw [hE]
  clear hE h h1 hT1 hb1 hT1' hun HEE HDE
  go_enter Tryz.func22, Tryz.ntmps22
  go_upto_region 1 with fail
  rw [← hZ] at hW1
  unfold zE at hW1
  rw [← hW1]
  clear hW1
  go_wp2_with fail
  clear hbx o0 o1 o2
  go_loopw [14] (fun iv wr => ∃ (i : Nat) (s1 : SE) (x1 : H) (y1 : DV), i ≤ 140 ∧ iv = .int .i64 (i : Int) ∧ DoT wb.heap.size wr (dE cf y1 x1) Z 1 u of ∧ DD w wr cf g s1 x1 y1 K ∧ Tn s s1 wb wr) (fun iv _ => 140 - (intOf iv).toNat)
  case atStart => exact ⟨0, s, x, y, by omega, rfl, HT1.out, H1.out, HTn1.out⟩
  case round =>
    clear HT1 H1 HTn1
    obtain ⟨i, s1, x1, y1, hi, rfl, hT, hDD, hTn⟩ := hrel
    have he' := dE_size cf y1 x1
    have hi' := dE_info cf y1 x1
    have ho' := dE_one cf y1 x1
    have HT := Lib.hid hT
    have HD := Lib.hid hDD
    have HTn := Lib.hid hTn
    by_cases hc : (i : Int) < 1
    · have hi1 : i + 1 ≤ 140 := by omega
      have pD := Lib.hid (hDD.remD u)
      have pP := Lib.hid (hDD.remP u)
      obtain ⟨d0, d1, d2, d3, d4, -⟩ := dE_cells hT.bx
      rw [hlo] at d1
      have hbx := hT.bx
      obtain ⟨o0, o1, o2⟩ := hT.oc
      have hun := hDD.un
      have HNX := Lib.hid (show ∀ w3 w5 y', Doc w3 y' (addHR cf x1 u) → DNew wr w3 y1 y' → ∀ V, Below w3.heap.size w3 V → HTurn V cf s1 (addHR cf x1 u) w5 → ∃ s', DD w w5 cf g s' (addHR cf x1 u) y' K ∧ Tn s1 s' wr w5 ∧ Tn s1 s' V w5 from fun w3 w5 y' hd hn V hV ht => by
        exact hDD.next (hd.below hV) ⟨hn.1.trans (hV.mono hn.1.size), hn.2⟩ ht (hDD.j.addR hu) hDD.ib.addR (K' := K) (by unfold addHR; split <;> exact hun))
      have HTA := Lib.hid (show ∀ w3 y', DNew wr w3 y1 y' → ∀ V, Below w3.heap.size w3 V → HAt V cf s1 x1 from fun w3 y' hn V hV => (hDD.ha.below hn.1).below hV)
      have HTT := Lib.hid (show (addHT cf x1 → addHN cf x1 = 0 ∧ addHC cf x1 = 2) ∧ (¬ addHT cf x1 → addHN cf x1 = ((x1.ks 0).length : Int) ∧ addHC cf x1 = 0) from ⟨fun h => ⟨if_pos h, if_pos h⟩, fun h => ⟨by unfold addHN; rw [if_neg h, hlo], if_neg h⟩⟩)
      have HDC := Lib.hid hDD.dc
      obtain ⟨l, hl⟩ : ∃ l, (x1.ks 0).length = l := ⟨_, rfl⟩
      rw [hl] at HTT d3
      have hlt1 := hT.rs.lt
      have hlow := hTn.1.size
      obtain ⟨E', hE'⟩ : ∃ E', dE cf y1 x1 = E' := ⟨_, rfl⟩
      have hT' := hT
      rw [hE'] at hbx pD he' hi' ho' hT'
      have HT2 := Lib.hid hT'
      clear hT hT' hDD hTn HT hE' hun hl
      by_cases hA : addHT cf x1
      · obtain ⟨e1, e3⟩ := HTT.out.1 hA
        have e2 : decide (¬ addHT cf x1) = false := decide_eq_false (fun h => h hA)
        rw [e2] at pD
        rw [e1, e3] at pP
        clear e1 e2 e3 HTT hA
        go_upto_region 18 with fail
        clear d0 d1 d2 d3 d4
        go_wp2_with (first | (refine wpList_load_blk (by rfl) 35 _ (by rfl) wb.heap.size (by rfl) _ E' _ hbx Tryz.underlying35 (by rfl) hi' ?_) | fail)
        refine (pD.out wr HDC.out).mono ?_
        rintro e w3 ⟨y2, rfl, hD3, hN3⟩
        have hT3 := HT2.out.below hN3.1
        have he1 := dE_size cf y2 (addHR cf x1 u)
        have hi1 := dE_info cf y2 (addHR cf x1 u)
        have ho1 := dE_one cf y2 (addHR cf x1 u)
        obtain ⟨E1, hE1⟩ : ∃ E1, dE cf y2 (addHR cf x1 u) = E1 := ⟨_, rfl⟩
        have HE1 := Lib.hid hE1
        rw [hE1] at he1 hi1 ho1 ⊢
        have hnew := Blk.new w3 35 zE
        have hzz : zE.size = E1.size := by rw [he1]; rfl
        have HD3 := Lib.hid hD3
        have HN3 := Lib.hid hN3
        have HT3 := Lib.hid hT3
        have hbl := (Below.refl w3.heap.size w3).alloc (Nat.le_refl _) (.cells zE 35)
        have hlt3 := hN3.1.size
        clear hD3 hN3 hT3 hE1 hbx o0 o1 o2
        go_upto_region 19 with (first | (refine wpList_store_blk (by rfl) 35 _ _ (by rfl) w3.heap.size E1 (by rfl) (by rfl) _ _ hnew hi1 hzz ho1 ?_; intro W5 hd5 ht5) | fail)
        have hb5 : Below w3.heap.size w3 W5 := hbl.trans (ht5.below hbl.size (fun k hk => by omega))
        have hT5 := HT3.out.below hb5
        have hA5 := HTA.out w3 y2 HN3.out W5 hb5
        have HA5 := Lib.hid hA5
        have HT5 := Lib.hid hT5
        have HB5 := Lib.hid hb5
        have HD5 := Lib.hid hd5
        obtain ⟨o0, o1, o2⟩ := hT5.oc
        clear hb5 hT5 hA5 ht5 hd5 hbl hnew o0 o2
        go_wp2_with fail
        refine (pP.out W5 HA5.out).mono ?_
        rintro e w6 ⟨rfl, htn⟩
        obtain ⟨s', hDD, hTn', hTv⟩ := HNX.out w3 w6 y2 HD3.out HN3.out W5 HB5.out htn
        have hT6 := HT5.out.tn HA5.out hTv
        have hb6 := hT6.bx
        have hd6 := hTv.blk HD5.out HA5.out (by decide)
        have HDD := Lib.hid hDD
        have HT6 := Lib.hid hT6
        have HTN := Lib.hid (HTn.out.trans hTn')
        have hzr : E'.size = E1.size := by rw [he', he1]
        clear hDD hTn' hTv hT6 htn o1
        go_upto_region 22 with fail
        go_wp2_with (first | (refine wpList_load_blk (by rfl) 35 _ (by rfl) w3.heap.size (by rfl) _ E1 _ hd6 Tryz.underlying35 (by rfl) hi1 ?_) | (refine wpList_store_blk (by rfl) 35 _ _ (by rfl) wb.heap.size E1 (by rfl) (by rfl) _ _ hb6 hi1 hzr ho1 ?_; intro W7 hd7 ht7) | fail)
        have HDF := Lib.hid (HDD.out.res hb6 (by omega) ht7)
        have HTF := Lib.hid (show DoT wb.heap.size W7 (dE cf y2 (addHR cf x1 u)) Z 1 u of from by rw [HE1.out]; exact ⟨hd7, HT6.out.op.touch ht7 (by omega), HT6.out.rs.touch ht7 (by omega)⟩)
        have HTL := Lib.hid (show Tn s s' wb W7 from ⟨HTN.out.1.trans ht7 (fun k hk => .inr (by omega)), HTN.out.2⟩)
        clear hd7 ht7 hb6 hd6
        go_roundw
        case rel => exact ⟨i + 1, s', _, y2, by omega, by go_num, HTF.out, HDF.out, HTL.out⟩
        case measure => simp [intOf]; omega
      · obtain ⟨e1, e3⟩ := HTT.out.2 hA
        have e2 : decide (¬ addHT cf x1) = true := decide_eq_true hA
        rw [e2] at pD
        rw [e1, e3] at pP
        clear e1 e2 e3 HTT hA
        go_upto_region 18 with fail
        clear d0 d1 d2 d3 d4
        go_wp2_with (first | (refine wpList_load_blk (by rfl) 35 _ (by rfl) wb.heap.size (by rfl) _ E' _ hbx Tryz.underlying35 (by rfl) hi' ?_) | fail)
        refine (pD.out wr HDC.out).mono ?_
        rintro e w3 ⟨y2, rfl, hD3, hN3⟩
        have hT3 := HT2.out.below hN3.1
        have he1 := dE_size cf y2 (addHR cf x1 u)
        have hi1 := dE_info cf y2 (addHR cf x1 u)
        have ho1 := dE_one cf y2 (addHR cf x1 u)
        obtain ⟨E1, hE1⟩ : ∃ E1, dE cf y2 (addHR cf x1 u) = E1 := ⟨_, rfl⟩
        have HE1 := Lib.hid hE1
        rw [hE1] at he1 hi1 ho1 ⊢
        have hnew := Blk.new w3 35 zE
        have hzz : zE.size = E1.size := by rw [he1]; rfl
        have HD3 := Lib.hid hD3
        have HN3 := Lib.hid hN3
        have HT3 := Lib.hid hT3
        have hbl := (Below.refl w3.heap.size w3).alloc (Nat.le_refl _) (.cells zE 35)
        have hlt3 := hN3.1.size
        clear hD3 hN3 hT3 hE1 hbx o0 o1 o2
        go_upto_region 19 with (first | (refine wpList_store_blk (by rfl) 35 _ _ (by rfl) w3.heap.size E1 (by rfl) (by rfl) _ _ hnew hi1 hzz ho1 ?_; intro W5 hd5 ht5) | fail)
        have hb5 : Below w3.heap.size w3 W5 := hbl.trans (ht5.below hbl.size (fun k hk => by omega))
        have hT5 := HT3.out.below hb5
        have hA5 := HTA.out w3 y2 HN3.out W5 hb5
        have HA5 := Lib.hid hA5
        have HT5 := Lib.hid hT5
        have HB5 := Lib.hid hb5
        have HD5 := Lib.hid hd5
        obtain ⟨o0, o1, o2⟩ := hT5.oc
        clear hb5 hT5 hA5 ht5 hd5 hbl hnew o0 o2
        go_wp2_with fail
        refine (pP.out W5 HA5.out).mono ?_
        rintro e w6 ⟨rfl, htn⟩
        obtain ⟨s', hDD, hTn', hTv⟩ := HNX.out w3 w6 y2 HD3.out HN3.out W5 HB5.out htn
        have hT6 := HT5.out.tn HA5.out hTv
        have hb6 := hT6.bx
        have hd6 := hTv.blk HD5.out HA5.out (by decide)
        have HDD := Lib.hid hDD
        have HT6 := Lib.hid hT6
        have HTN := Lib.hid (HTn.out.trans hTn')
        have hzr : E'.size = E1.size := by rw [he', he1]
        clear hDD hTn' hTv hT6 htn o1
        go_upto_region 22 with fail
        go_wp2_with (first | (refine wpList_load_blk (by rfl) 35 _ (by rfl) w3.heap.size (by rfl) _ E1 _ hd6 Tryz.underlying35 (by rfl) hi1 ?_) | (refine wpList_store_blk (by rfl) 35 _ _ (by rfl) wb.heap.size E1 (by rfl) (by rfl) _ _ hb6 hi1 hzr ho1 ?_; intro W7 hd7 ht7) | fail)
        have HDF := Lib.hid (HDD.out.res hb6 (by omega) ht7)
        have HTF := Lib.hid (show DoT wb.heap.size W7 (dE cf y2 (addHR cf x1 u)) Z 1 u of from by rw [HE1.out]; exact ⟨hd7, HT6.out.op.touch ht7 (by omega), HT6.out.rs.touch ht7 (by omega)⟩)
        have HTL := Lib.hid (show Tn s s' wb W7 from ⟨HTN.out.1.trans ht7 (fun k hk => .inr (by omega)), HTN.out.2⟩)
        clear hd7 ht7 hb6 hd6
        go_roundw
        case rel => exact ⟨i + 1, s', _, y2, by omega, by go_num, HTF.out, HDF.out, HTL.out⟩
        case measure => simp [intOf]; omega
    · have hbx := hT.bx
      have hrs := hT.rs
      have hlow := hTn.1.size
      have hzr : Z.size = (dE cf y1 x1).size := by rw [hZs, he']
      obtain ⟨E', hE'⟩ : ∃ E', dE cf y1 x1 = E' := ⟨_, rfl⟩
      have HE' := Lib.hid hE'
      rw [hE'] at hbx he' hi' ho' hzr
      clear hT hDD hTn HT hE'
      go_wp2_with (first | (refine wpList_load_blk (by rfl) 35 _ (by rfl) wb.heap.size (by rfl) _ E' _ hbx Tryz.underlying35 (by rfl) hi' ?_) | (refine wpList_store_blk (by rfl) 35 _ _ (by rfl) (wb.heap.size + 2) E' (by rfl) (by rfl) _ _ hrs hi' hzr ho' ?_; intro W7 hd7 ht7) | fail)
      refine bodyPost_ret (v := .tuple #[.agg E', .bool true]) (pair_resultsD Tryz.results22 _ _ (wb.heap.size + 2) _ E' _ hd7 hi' (by rfl) (by rfl)) rfl ?_
      exact ⟨s1, x1, y1, by rw [HE'.out], (HD.out.up).res hrs (by omega) ht7, ⟨HTn.out.1.trans ht7 (fun k hk => .inr (by omega)), HTn.out.2⟩⟩
set_option maxRecDepth 100000 in
set_option maxHeartbeats 8000000 in
theorem do3l1a_any (w wb : World) (cf : Cfg) (g : Nat) (s : SE) (x : H) (y : DV) (K : Nat) (h : DD w wb cf g s x y K) (u : Nat) (of : Int) (hu : u < 65536) (hlo : cf.lo = 1) (hof : 140 < of) :
    Calls Tryz.prog 22 #[.pointer (some ⟨g, 0, none⟩), .agg (dE cf y x), .agg #[.int .i64 3, .int .u16 (u : Int), .int .i64 of]] wb (DoP w wb cf g s (K + 1)) := by
  obtain ⟨Z, hZ⟩ : ∃ Z, zE = Z := ⟨_, rfl⟩
  have hZs : Z.size = 12 := by rw [← hZ]; exact zE_size
  have hes := dE_size cf y x
  have hei := dE_info cf y x
  have heo := dE_one cf y x
  have HDE := Lib.hid (fun (W : World) (b : Nat) (hb : Blk W b 35 (dE cf y x)) => dE_cells hb)
  obtain ⟨E, hE⟩ : ∃ E, dE cf y x = E := ⟨_, rfl⟩
  have HEE := Lib.hid hE
  rw [hE] at hes hei heo HDE
  obtain ⟨W1, hW1⟩ : ∃ W1, W1 = ((wb.alloc (.cells E 35)).alloc (.cells #[.int .i64 3, .int .u16 (u : Int), .int .i64 of] 72)).alloc (.cells Z 35) := ⟨_, rfl⟩
  have hT1 : DoT wb.heap.size W1 E Z 3 u of := by rw [hW1]; exact doT_start wb E Z _ _ _
  have hb1 : Below wb.heap.size wb W1 := by rw [hW1]; exact below3 _ _ _ _
  have h1 := h.below hb1
  have hlo0 := h.lo.size
  have hun := h.un
  have hT1' : DoT wb.heap.size W1 (dE cf y x) Z 3 u of := by rw [hE]; exact hT1
  have HT1 := Lib.hid hT1'
  have H1 := Lib.hid h1
  have HTn1 := Lib.hid (show Tn s s wb W1 from (Tn.refl s wb).below hb1)
  have hlt0 := hT1.rs.lt
  have hbx := hT1.bx
  obtain ⟨o0, o1, o2⟩ := hT1.oc
  rw [hE]
  clear hE h h1 hT1 hb1 hT1' hun HEE HDE
  go_enter Tryz.func22, Tryz.ntmps22
  go_upto_region 1 with fail
  rw [← hZ] at hW1
  unfold zE at hW1
  rw [← hW1]
  clear hW1
  go_wp2_with fail
  clear hbx o0 o1 o2 hof
  go_loopw [14] (fun iv wr => ∃ (i : Nat) (s1 : SE) (x1 : H) (y1 : DV), i ≤ 140 ∧ iv = .int .i64 (i : Int) ∧ DoT wb.heap.size wr (dE cf y1 x1) Z 3 u of ∧ DD w wr cf g s1 x1 y1 K ∧ Tn s s1 wb wr) (fun iv _ => 140 - (intOf iv).toNat)
  case atStart => exact ⟨0, s, x, y, by omega, rfl, HT1.out, H1.out, HTn1.out⟩
  case round =>
    clear HT1 H1 HTn1
    obtain ⟨i, s1, x1, y1, hi, rfl, hT, hDD, hTn⟩ := hrel
    have he' := dE_size cf y1 x1
    have hi' := dE_info cf y1 x1
    have ho' := dE_one cf y1 x1
    have HT := Lib.hid hT
    have HD := Lib.hid hDD
    have HTn := Lib.hid hTn
    by_cases hc : (i : Int) < 140
    · have hi1 : i + 1 ≤ 140 := by omega
      have pD := Lib.hid (hDD.remD u)
      have pP := Lib.hid (hDD.remP u)
      obtain ⟨d0, d1, d2, d3, d4, -⟩ := dE_cells hT.bx
      rw [hlo] at d1
      have hbx := hT.bx
      obtain ⟨o0, o1, o2⟩ := hT.oc
      have hun := hDD.un
      have HNX := Lib.hid (show ∀ w3 w5 y', Doc w3 y' (addHR cf x1 u) → DNew wr w3 y1 y' → ∀ V, Below w3.heap.size w3 V → HTurn V cf s1 (addHR cf x1 u) w5 → ∃ s', DD w w5 cf g s' (addHR cf x1 u) y' K ∧ Tn s1 s' wr w5 ∧ Tn s1 s' V w5 from fun w3 w5 y' hd hn V hV ht => by
        exact hDD.next (hd.below hV) ⟨hn.1.trans (hV.mono hn.1.size), hn.2⟩ ht (hDD.j.addR hu) hDD.ib.addR (K' := K) (by unfold addHR; split <;> exact hun))
      have HTA := Lib.hid (show ∀ w3 y', DNew wr w3 y1 y' → ∀ V, Below w3.heap.size w3 V → HAt V cf s1 x1 from fun w3 y' hn V hV => (hDD.ha.below hn.1).below hV)
      have HTT := Lib.hid (show (addHT cf x1 → addHN cf x1 = 0 ∧ addHC cf x1 = 2) ∧ (¬ addHT cf x1 → addHN cf x1 = ((x1.ks 0).length : Int) ∧ addHC cf x1 = 0) from ⟨fun h => ⟨if_pos h, if_pos h⟩, fun h => ⟨by unfold addHN; rw [if_neg h, hlo], if_neg h⟩⟩)
      have HDC := Lib.hid hDD.dc
      obtain ⟨l, hl⟩ : ∃ l, (x1.ks 0).length = l := ⟨_, rfl⟩
      rw [hl] at HTT d3
      have hlt1 := hT.rs.lt
      have hlow := hTn.1.size
      obtain ⟨E', hE'⟩ : ∃ E', dE cf y1 x1 = E' := ⟨_, rfl⟩
      have hT' := hT
      rw [hE'] at hbx pD he' hi' ho' hT'
      have HT2 := Lib.hid hT'
      clear hT hT' hDD hTn HT hE' hun hl
      by_cases hA : addHT cf x1
      · obtain ⟨e1, e3⟩ := HTT.out.1 hA
        have e2 : decide (¬ addHT cf x1) = false := decide_eq_false (fun h => h hA)
        rw [e2] at pD
        rw [e1, e3] at pP
        clear e1 e2 e3 HTT hA
        go_upto_region 18 with fail
        clear d0 d1 d2 d3 d4
        go_wp2_with (first | (refine wpList_load_blk (by rfl) 35 _ (by rfl) wb.heap.size (by rfl) _ E' _ hbx Tryz.underlying35 (by rfl) hi' ?_) | fail)
        refine (pD.out wr HDC.out).mono ?_
        rintro e w3 ⟨y2, rfl, hD3, hN3⟩
        have hT3 := HT2.out.below hN3.1
        have he1 := dE_size cf y2 (addHR cf x1 u)
        have hi1 := dE_info cf y2 (addHR cf x1 u)
        have ho1 := dE_one cf y2 (addHR cf x1 u)
        obtain ⟨E1, hE1⟩ : ∃ E1, dE cf y2 (addHR cf x1 u) = E1 := ⟨_, rfl⟩
        have HE1 := Lib.hid hE1
        rw [hE1] at he1 hi1 ho1 ⊢
        have hnew := Blk.new w3 35 zE
        have hzz : zE.size = E1.size := by rw [he1]; rfl
        have HD3 := Lib.hid hD3
        have HN3 := Lib.hid hN3
        have HT3 := Lib.hid hT3
        have hbl := (Below.refl w3.heap.size w3).alloc (Nat.le_refl _) (.cells zE 35)
        have hlt3 := hN3.1.size
        clear hD3 hN3 hT3 hE1 hbx o0 o1 o2
        go_upto_region 19 with (first | (refine wpList_store_blk (by rfl) 35 _ _ (by rfl) w3.heap.size E1 (by rfl) (by rfl) _ _ hnew hi1 hzz ho1 ?_; intro W5 hd5 ht5) | fail)
        have hb5 : Below w3.heap.size w3 W5 := hbl.trans (ht5.below hbl.size (fun k hk => by omega))
        have hT5 := HT3.out.below hb5
        have hA5 := HTA.out w3 y2 HN3.out W5 hb5
        have HA5 := Lib.hid hA5
        have HT5 := Lib.hid hT5
        have HB5 := Lib.hid hb5
        have HD5 := Lib.hid hd5
        obtain ⟨o0, o1, o2⟩ := hT5.oc
        clear hb5 hT5 hA5 ht5 hd5 hbl hnew o0 o2
        go_wp2_with fail
        refine (pP.out W5 HA5.out).mono ?_
        rintro e w6 ⟨rfl, htn⟩
        obtain ⟨s', hDD, hTn', hTv⟩ := HNX.out w3 w6 y2 HD3.out HN3.out W5 HB5.out htn
        have hT6 := HT5.out.tn HA5.out hTv
        have hb6 := hT6.bx
        have hd6 := hTv.blk HD5.out HA5.out (by decide)
        have HDD := Lib.hid hDD
        have HT6 := Lib.hid hT6
        have HTN := Lib.hid (HTn.out.trans hTn')
        have hzr : E'.size = E1.size := by rw [he', he1]
        clear hDD hTn' hTv hT6 htn o1
        go_upto_region 22 with fail
        go_wp2_with (first | (refine wpList_load_blk (by rfl) 35 _ (by rfl) w3.heap.size (by rfl) _ E1 _ hd6 Tryz.underlying35 (by rfl) hi1 ?_) | (refine wpList_store_blk (by rfl) 35 _ _ (by rfl) wb.heap.size E1 (by rfl) (by rfl) _ _ hb6 hi1 hzr ho1 ?_; intro W7 hd7 ht7) | fail)
        have HDF := Lib.hid (HDD.out.res hb6 (by omega) ht7)
        have HTF := Lib.hid (show DoT wb.heap.size W7 (dE cf y2 (addHR cf x1 u)) Z 3 u of from by rw [HE1.out]; exact ⟨hd7, HT6.out.op.touch ht7 (by omega), HT6.out.rs.touch ht7 (by omega)⟩)
        have HTL := Lib.hid (show Tn s s' wb W7 from ⟨HTN.out.1.trans ht7 (fun k hk => .inr (by omega)), HTN.out.2⟩)
        clear hd7 ht7 hb6 hd6
        go_roundw
        case rel => exact ⟨i + 1, s', _, y2, by omega, by go_num, HTF.out, HDF.out, HTL.out⟩
        case measure => simp [intOf]; omega
      · obtain ⟨e1, e3⟩ := HTT.out.2 hA
        have e2 : decide (¬ addHT cf x1) = true := decide_eq_true hA
        rw [e2] at pD
        rw [e1, e3] at pP
        clear e1 e2 e3 HTT hA
        go_upto_region 18 with fail
        clear d0 d1 d2 d3 d4
        go_wp2_with (first | (refine wpList_load_blk (by rfl) 35 _ (by rfl) wb.heap.size (by rfl) _ E' _ hbx Tryz.underlying35 (by rfl) hi' ?_) | fail)
        refine (pD.out wr HDC.out).mono ?_
        rintro e w3 ⟨y2, rfl, hD3, hN3⟩
        have hT3 := HT2.out.below hN3.1
        have he1 := dE_size cf y2 (addHR cf x1 u)
        have hi1 := dE_info cf y2 (addHR cf x1 u)
        have ho1 := dE_one cf y2 (addHR cf x1 u)
        obtain ⟨E1, hE1⟩ : ∃ E1, dE cf y2 (addHR cf x1 u) = E1 := ⟨_, rfl⟩
        have HE1 := Lib.hid hE1
        rw [hE1] at he1 hi1 ho1 ⊢
        have hnew := Blk.new w3 35 zE
        have hzz : zE.size = E1.size := by rw [he1]; rfl
        have HD3 := Lib.hid hD3
        have HN3 := Lib.hid hN3
        have HT3 := Lib.hid hT3
        have hbl := (Below.refl w3.heap.size w3).alloc (Nat.le_refl _) (.cells zE 35)
        have hlt3 := hN3.1.size
        clear hD3 hN3 hT3 hE1 hbx o0 o1 o2
        go_upto_region 19 with (first | (refine wpList_store_blk (by rfl) 35 _ _ (by rfl) w3.heap.size E1 (by rfl) (by rfl) _ _ hnew hi1 hzz ho1 ?_; intro W5 hd5 ht5) | fail)
        have hb5 : Below w3.heap.size w3 W5 := hbl.trans (ht5.below hbl.size (fun k hk => by omega))
        have hT5 := HT3.out.below hb5
        have hA5 := HTA.out w3 y2 HN3.out W5 hb5
        have HA5 := Lib.hid hA5
        have HT5 := Lib.hid hT5
        have HB5 := Lib.hid hb5
        have HD5 := Lib.hid hd5
        obtain ⟨o0, o1, o2⟩ := hT5.oc
        clear hb5 hT5 hA5 ht5 hd5 hbl hnew o0 o2
        go_wp2_with fail
        refine (pP.out W5 HA5.out).mono ?_
        rintro e w6 ⟨rfl, htn⟩
        obtain ⟨s', hDD, hTn', hTv⟩ := HNX.out w3 w6 y2 HD3.out HN3.out W5 HB5.out htn
        have hT6 := HT5.out.tn HA5.out hTv
        have hb6 := hT6.bx
        have hd6 := hTv.blk HD5.out HA5.out (by decide)
        have HDD := Lib.hid hDD
        have HT6 := Lib.hid hT6
        have HTN := Lib.hid (HTn.out.trans hTn')
        have hzr : E'.size = E1.size := by rw [he', he1]
        clear hDD hTn' hTv hT6 htn o1
        go_upto_region 22 with fail
        go_wp2_with (first | (refine wpList_load_blk (by rfl) 35 _ (by rfl) w3.heap.size (by rfl) _ E1 _ hd6 Tryz.underlying35 (by rfl) hi1 ?_) | (refine wpList_store_blk (by rfl) 35 _ _ (by rfl) wb.heap.size E1 (by rfl) (by rfl) _ _ hb6 hi1 hzr ho1 ?_; intro W7 hd7 ht7) | fail)
        have HDF := Lib.hid (HDD.out.res hb6 (by omega) ht7)
        have HTF := Lib.hid (show DoT wb.heap.size W7 (dE cf y2 (addHR cf x1 u)) Z 3 u of from by rw [HE1.out]; exact ⟨hd7, HT6.out.op.touch ht7 (by omega), HT6.out.rs.touch ht7 (by omega)⟩)
        have HTL := Lib.hid (show Tn s s' wb W7 from ⟨HTN.out.1.trans ht7 (fun k hk => .inr (by omega)), HTN.out.2⟩)
        clear hd7 ht7 hb6 hd6
        go_roundw
        case rel => exact ⟨i + 1, s', _, y2, by omega, by go_num, HTF.out, HDF.out, HTL.out⟩
        case measure => simp [intOf]; omega
    · have hbx := hT.bx
      have hrs := hT.rs
      have hlow := hTn.1.size
      have hzr : Z.size = (dE cf y1 x1).size := by rw [hZs, he']
      obtain ⟨E', hE'⟩ : ∃ E', dE cf y1 x1 = E' := ⟨_, rfl⟩
      have HE' := Lib.hid hE'
      rw [hE'] at hbx he' hi' ho' hzr
      clear hT hDD hTn HT hE'
      go_wp2_with (first | (refine wpList_load_blk (by rfl) 35 _ (by rfl) wb.heap.size (by rfl) _ E' _ hbx Tryz.underlying35 (by rfl) hi' ?_) | (refine wpList_store_blk (by rfl) 35 _ _ (by rfl) (wb.heap.size + 2) E' (by rfl) (by rfl) _ _ hrs hi' hzr ho' ?_; intro W7 hd7 ht7) | fail)
      refine bodyPost_ret (v := .tuple #[.agg E', .bool true]) (pair_resultsD Tryz.results22 _ _ (wb.heap.size + 2) _ E' _ hd7 hi' (by rfl) (by rfl)) rfl ?_
      exact ⟨s1, x1, y1, by rw [HE'.out], (HD.out.up).res hrs (by omega) ht7, ⟨HTn.out.1.trans ht7 (fun k hk => .inr (by omega)), HTn.out.2⟩⟩
set_option maxRecDepth 100000 in
set_option maxHeartbeats 8000000 in
theorem do3l1b_any (w wb : World) (cf : Cfg) (g : Nat) (s : SE) (x : H) (y : DV) (K : Nat) (h : DD w wb cf g s x y K) (u : Nat) (of : Int) (hu : u < 65536) (hlo : cf.lo = 1) (hof : ¬ 140 < of) :
    Calls Tryz.prog 22 #[.pointer (some ⟨g, 0, none⟩), .agg (dE cf y x), .agg #[.int .i64 3, .int .u16 (u : Int), .int .i64 of]] wb (DoP w wb cf g s (K + 1)) := by
  obtain ⟨Z, hZ⟩ : ∃ Z, zE = Z := ⟨_, rfl⟩
  have hZs : Z.size = 12 := by rw [← hZ]; exact zE_size
  have hes := dE_size cf y x
  have hei := dE_info cf y x
  have heo := dE_one cf y x
  have HDE := Lib.hid (fun (W : World) (b : Nat) (hb : Blk W b 35 (dE cf y x)) => dE_cells hb)
  obtain ⟨E, hE⟩ : ∃ E, dE cf y x = E := ⟨_, rfl⟩
  have HEE := Lib.hid hE
  rw [hE] at hes hei heo HDE
  obtain ⟨W1, hW1⟩ : ∃ W1, W1 = ((wb.alloc (.cells E 35)).alloc (.cells #[.int .i64 3, .int .u16 (u : Int), .int .i64 of] 72)).alloc (.cells Z 35) := ⟨_, rfl⟩
  have hT1 : DoT wb.heap.size W1 E Z 3 u of := by rw [hW1]; exact doT_start wb E Z _ _ _
  have hb1 : Below wb.heap.size wb W1 := by rw [hW1]; exact below3 _ _ _ _
  have h1 := h.below hb1
  have hlo0 := h.lo.size
  have hun := h.un
  have hT1' : DoT wb.heap.size W1 (dE cf y x) Z 3 u of := by rw [hE]; exact hT1
  have HT1 := Lib.hid hT1'
  have H1 := Lib.hid h1
  have HTn1 := Lib.hid (show Tn s s wb W1 from (Tn.refl s wb).below hb1)
  have hlt0 := hT1.rs.lt
  have hbx := hT1.bx
  obtain ⟨o0, o1, o2⟩ := hT1.oc
  rw [hE]
  clear hE h h1 hT1 hb1 hT1' hun HEE HDE
  go_enter Tryz.func22, Tryz.ntmps22
  go_upto_region 1 with fail
  rw [← hZ] at hW1
  unfold zE at hW1
  rw [← hW1]
  clear hW1
  go_wp2_with fail
  clear hbx o0 o1 o2
  go_loopw [14] (fun iv wr => ∃ (i : Nat) (s1 : SE) (x1 : H) (y1 : DV), i ≤ 140 ∧ iv = .int .i64 (i : Int) ∧ DoT wb.heap.size wr (dE cf y1 x1) Z 3 u of ∧ DD w wr cf g s1 x1 y1 K ∧ Tn s s1 wb wr) (fun iv _ => 140 - (intOf iv).toNat)
  case atStart => exact ⟨0, s, x, y, by omega, rfl, HT1.out, H1.out, HTn1.out⟩
  case round =>
    clear HT1 H1 HTn1
    obtain ⟨i, s1, x1, y1, hi, rfl, hT, hDD, hTn⟩ := hrel
    have he' := dE_size cf y1 x1
    have hi' := dE_info cf y1 x1
    have ho' := dE_one cf y1 x1
    have HT := Lib.hid hT
    have HD := Lib.hid hDD
    have HTn := Lib.hid hTn
    by_cases hc : (i : Int) < of
    · have hi1 : i + 1 ≤ 140 := by omega
      have pD := Lib.hid (hDD.remD u)
      have pP := Lib.hid (hDD.remP u)
      obtain ⟨d0, d1, d2, d3, d4, -⟩ := dE_cells hT.bx
      rw [hlo] at d1
      have hbx := hT.bx
      obtain ⟨o0, o1, o2⟩ := hT.oc
      have hun := hDD.un
      have HNX := Lib.hid (show ∀ w3 w5 y', Doc w3 y' (addHR cf x1 u) → DNew wr w3 y1 y' → ∀ V, Below w3.heap.size w3 V → HTurn V cf s1 (addHR cf x1 u) w5 → ∃ s', DD w w5 cf g s' (addHR cf x1 u) y' K ∧ Tn s1 s' wr w5 ∧ Tn s1 s' V w5 from fun w3 w5 y' hd hn V hV ht => by
        exact hDD.next (hd.below hV) ⟨hn.1.trans (hV.mono hn.1.size), hn.2⟩ ht (hDD.j.addR hu) hDD.ib.addR (K' := K) (by unfold addHR; split <;> exact hun))
      have HTA := Lib.hid (show ∀ w3 y', DNew wr w3 y1 y' → ∀ V, Below w3.heap.size w3 V → HAt V cf s1 x1 from fun w3 y' hn V hV => (hDD.ha.below hn.1).below hV)
      have HTT := Lib.hid (show (addHT cf x1 → addHN cf x1 = 0 ∧ addHC cf x1 = 2) ∧ (¬ addHT cf x1 → addHN cf x1 = ((x1.ks 0).length : Int) ∧ addHC cf x1 = 0) from ⟨fun h => ⟨if_pos h, if_pos h⟩, fun h => ⟨by unfold addHN; rw [if_neg h, hlo], if_neg h⟩⟩)
      have HDC := Lib.hid hDD.dc
      obtain ⟨l, hl⟩ : ∃ l, (x1.ks 0).length = l := ⟨_, rfl⟩
      rw [hl] at HTT d3
      have hlt1 := hT.rs.lt
      have hlow := hTn.1.size
      obtain ⟨E', hE'⟩ : ∃ E', dE cf y1 x1 = E' := ⟨_, rfl⟩
      have hT' := hT
      rw [hE'] at hbx pD he' hi' ho' hT'
      have HT2 := Lib.hid hT'
      clear hT hT' hDD hTn HT hE' hun hl
      by_cases hA : addHT cf x1
      · obtain ⟨e1, e3⟩ := HTT.out.1 hA
        have e2 : decide (¬ addHT cf x1) = false := decide_eq_false (fun h => h hA)
        rw [e2] at pD
        rw [e1, e3] at pP
        clear e1 e2 e3 HTT hA
        go_upto_region 18 with fail
        clear d0 d1 d2 d3 d4
        go_wp2_with (first | (refine wpList_load_blk (by rfl) 35 _ (by rfl) wb.heap.size (by rfl) _ E' _ hbx Tryz.underlying35 (by rfl) hi' ?_) | fail)
        refine (pD.out wr HDC.out).mono ?_
        rintro e w3 ⟨y2, rfl, hD3, hN3⟩
        have hT3 := HT2.out.below hN3.1
        have he1 := dE_size cf y2 (addHR cf x1 u)
        have hi1 := dE_info cf y2 (addHR cf x1 u)
        have ho1 := dE_one cf y2 (addHR cf x1 u)
        obtain ⟨E1, hE1⟩ : ∃ E1, dE cf y2 (addHR cf x1 u) = E1 := ⟨_, rfl⟩
        have HE1 := Lib.hid hE1
        rw [hE1] at he1 hi1 ho1 ⊢
        have hnew := Blk.new w3 35 zE
        have hzz : zE.size = E1.size := by rw [he1]; rfl
        have HD3 := Lib.hid hD3
        have HN3 := Lib.hid hN3
        have HT3 := Lib.hid hT3
        have hbl := (Below.refl w3.heap.size w3).alloc (Nat.le_refl _) (.cells zE 35)
        have hlt3 := hN3.1.size
        clear hD3 hN3 hT3 hE1 hbx o0 o1 o2
        go_upto_region 19 with (first | (refine wpList_store_blk (by rfl) 35 _ _ (by rfl) w3.heap.size E1 (by rfl) (by rfl) _ _ hnew hi1 hzz ho1 ?_; intro W5 hd5 ht5) | fail)
        have hb5 : Below w3.heap.size w3 W5 := hbl.trans (ht5.below hbl.size (fun k hk => by omega))
        have hT5 := HT3.out.below hb5
        have hA5 := HTA.out w3 y2 HN3.out W5 hb5
        have HA5 := Lib.hid hA5
        have HT5 := Lib.hid hT5
        have HB5 := Lib.hid hb5
        have HD5 := Lib.hid hd5
        obtain ⟨o0, o1, o2⟩ := hT5.oc
        clear hb5 hT5 hA5 ht5 hd5 hbl hnew o0 o2
        go_wp2_with fail
        refine (pP.out W5 HA5.out).mono ?_
        rintro e w6 ⟨rfl, htn⟩
        obtain ⟨s', hDD, hTn', hTv⟩ := HNX.out w3 w6 y2 HD3.out HN3.out W5 HB5.out htn
        have hT6 := HT5.out.tn HA5.out hTv
        have hb6 := hT6.bx
        have hd6 := hTv.blk HD5.out HA5.out (by decide)
        have HDD := Lib.hid hDD
        have HT6 := Lib.hid hT6
        have HTN := Lib.hid (HTn.out.trans hTn')
        have hzr : E'.size = E1.size := by rw [he', he1]
        clear hDD hTn' hTv hT6 htn o1
        go_upto_region 22 with fail
        go_wp2_with (first | (refine wpList_load_blk (by rfl) 35 _ (by rfl) w3.heap.size (by rfl) _ E1 _ hd6 Tryz.underlying35 (by rfl) hi1 ?_) | (refine wpList_store_blk (by rfl) 35 _ _ (by rfl) wb.heap.size E1 (by rfl) (by rfl) _ _ hb6 hi1 hzr ho1 ?_; intro W7 hd7 ht7) | fail)
        have HDF := Lib.hid (HDD.out.res hb6 (by omega) ht7)
        have HTF := Lib.hid (show DoT wb.heap.size W7 (dE cf y2 (addHR cf x1 u)) Z 3 u of from by rw [HE1.out]; exact ⟨hd7, HT6.out.op.touch ht7 (by omega), HT6.out.rs.touch ht7 (by omega)⟩)
        have HTL := Lib.hid (show Tn s s' wb W7 from ⟨HTN.out.1.trans ht7 (fun k hk => .inr (by omega)), HTN.out.2⟩)
        clear hd7 ht7 hb6 hd6
        go_roundw
        case rel => exact ⟨i + 1, s', _, y2, by omega, by go_num, HTF.out, HDF.out, HTL.out⟩
        case measure => simp [intOf]; omega
      · obtain ⟨e1, e3⟩ := HTT.out.2 hA
        have e2 : decide (¬ addHT cf x1) = true := decide_eq_true hA
        rw [e2] at pD
        rw [e1, e3] at pP
        clear e1 e2 e3 HTT hA
        go_upto_region 18 with fail
        clear d0 d1 d2 d3 d4
        go_wp2_with (first | (refine wpList_load_blk (by rfl) 35 _ (by rfl) wb.heap.size (by rfl) _ E' _ hbx Tryz.underlying35 (by rfl) hi' ?_) | fail)
        refine (pD.out wr HDC.out).mono ?_
        rintro e w3 ⟨y2, rfl, hD3, hN3⟩
        have hT3 := HT2.out.below hN3.1
        have he1 := dE_size cf y2 (addHR cf x1 u)
        have hi1 := dE_info cf y2 (addHR cf x1 u)
        have ho1 := dE_one cf y2 (addHR cf x1 u)
        obtain ⟨E1, hE1⟩ : ∃ E1, dE cf y2 (addHR cf x1 u) = E1 := ⟨_, rfl⟩
        have HE1 := Lib.hid hE1
        rw [hE1] at he1 hi1 ho1 ⊢
        have hnew := Blk.new w3 35 zE
        have hzz : zE.size = E1.size := by rw [he1]; rfl
        have HD3 := Lib.hid hD3
        have HN3 := Lib.hid hN3
        have HT3 := Lib.hid hT3
        have hbl := (Below.refl w3.heap.size w3).alloc (Nat.le_refl _) (.cells zE 35)
        have hlt3 := hN3.1.size
        clear hD3 hN3 hT3 hE1 hbx o0 o1 o2
        go_upto_region 19 with (first | (refine wpList_store_blk (by rfl) 35 _ _ (by rfl) w3.heap.size E1 (by rfl) (by rfl) _ _ hnew hi1 hzz ho1 ?_; intro W5 hd5 ht5) | fail)
        have hb5 : Below w3.heap.size w3 W5 := hbl.trans (ht5.below hbl.size (fun k hk => by omega))
        have hT5 := HT3.out.below hb5
        have hA5 := HTA.out w3 y2 HN3.out W5 hb5
        have HA5 := Lib.hid hA5
        have HT5 := Lib.hid hT5
        have HB5 := Lib.hid hb5
        have HD5 := Lib.hid hd5
        obtain ⟨o0, o1, o2⟩ := hT5.oc
        clear hb5 hT5 hA5 ht5 hd5 hbl hnew o0 o2
        go_wp2_with fail
        refine (pP.out W5 HA5.out).mono ?_
        rintro e w6 ⟨rfl, htn⟩
        obtain ⟨s', hDD, hTn', hTv⟩ := HNX.out w3 w6 y2 HD3.out HN3.out W5 HB5.out htn
        have hT6 := HT5.out.tn HA5.out hTv
        have hb6 := hT6.bx
        have hd6 := hTv.blk HD5.out HA5.out (by decide)
        have HDD := Lib.hid hDD
        have HT6 := Lib.hid hT6
        have HTN := Lib.hid (HTn.out.trans hTn')
        have hzr : E'.size = E1.size := by rw [he', he1]
        clear hDD hTn' hTv hT6 htn o1
        go_upto_region 22 with fail
        go_wp2_with (first | (refine wpList_load_blk (by rfl) 35 _ (by rfl) w3.heap.size (by rfl) _ E1 _ hd6 Tryz.underlying35 (by rfl) hi1 ?_) | (refine wpList_store_blk (by rfl) 35 _ _ (by rfl) wb.heap.size E1 (by rfl) (by rfl) _ _ hb6 hi1 hzr ho1 ?_; intro W7 hd7 ht7) | fail)
        have HDF := Lib.hid (HDD.out.res hb6 (by omega) ht7)
        have HTF := Lib.hid (show DoT wb.heap.size W7 (dE cf y2 (addHR cf x1 u)) Z 3 u of from by rw [HE1.out]; exact ⟨hd7, HT6.out.op.touch ht7 (by omega), HT6.out.rs.touch ht7 (by omega)⟩)
        have HTL := Lib.hid (show Tn s s' wb W7 from ⟨HTN.out.1.trans ht7 (fun k hk => .inr (by omega)), HTN.out.2⟩)
        clear hd7 ht7 hb6 hd6
        go_roundw
        case rel => exact ⟨i + 1, s', _, y2, by omega, by go_num, HTF.out, HDF.out, HTL.out⟩
        case measure => simp [intOf]; omega
    · have hbx := hT.bx
      have hrs := hT.rs
      have hlow := hTn.1.size
      have hzr : Z.size = (dE cf y1 x1).size := by rw [hZs, he']
      obtain ⟨E', hE'⟩ : ∃ E', dE cf y1 x1 = E' := ⟨_, rfl⟩
      have HE' := Lib.hid hE'
      rw [hE'] at hbx he' hi' ho' hzr
      clear hT hDD hTn HT hE'
      go_wp2_with (first | (refine wpList_load_blk (by rfl) 35 _ (by rfl) wb.heap.size (by rfl) _ E' _ hbx Tryz.underlying35 (by rfl) hi' ?_) | (refine wpList_store_blk (by rfl) 35 _ _ (by rfl) (wb.heap.size + 2) E' (by rfl) (by rfl) _ _ hrs hi' hzr ho' ?_; intro W7 hd7 ht7) | fail)
      refine bodyPost_ret (v := .tuple #[.agg E', .bool true]) (pair_resultsD Tryz.results22 _ _ (wb.heap.size + 2) _ E' _ hd7 hi' (by rfl) (by rfl)) rfl ?_
      exact ⟨s1, x1, y1, by rw [HE'.out], (HD.out.up).res hrs (by omega) ht7, ⟨HTn.out.1.trans ht7 (fun k hk => .inr (by omega)), HTn.out.2⟩⟩
end Go.Proofs.YtckkpgopddnkiaaGreat.Rl
