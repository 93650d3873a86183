/-
  Texts joined: OpenRo, RdP. No condition.
-/
import Derived.Test.YtckkpgopddnkiaaGreatBRp20
import Derived.MapViews
namespace Go.Proofs.YtckkpgopddnkiaaGreat.Rl
open Go.RowKit Go.WideShapes Go.ChangeShapes Go.ChangeAt Go.Deep Go.Proofs.YtckkpgopddnkiaaGreat.Eql Go.Proofs.YtckkpgopddnkiaaGreat.Gm
set_option linter.all false

theorem keyRo : Tryz.prog.keyTypeAt 4 72 = true := by kernel_rfl
theorem tiledRo : Tryz.prog.tiled 4 72 = true := by kernel_rfl
theorem litsRo : Tryz.prog.keyLits 4 72 [.int .i64 0, .int .u16 0, .int .i64 0] = some [.int .i64 0, .int .u16 0, .int .i64 0] := by kernel_rfl
theorem keyCf : Tryz.prog.keyTypeAt 4 24 = true := by kernel_rfl
theorem tiledCf : Tryz.prog.tiled 4 24 = true := by kernel_rfl
theorem litsCf : Tryz.prog.keyLits 4 24 [.int .u32 0, .int .i64 0, .int .i64 0, .int .i64 0] = some [.int .u32 0, .int .i64 0, .int .i64 0, .int .i64 0] := by kernel_rfl
theorem int_likeRo {x : Lit} {k : IntKind} {n : Int} (h : x.sameKind (.int k n)) : ∃ m, x = .int k m := by
  cases x <;> simp [Lit.sameKind] at h
  subst h
  exact ⟨_, rfl⟩
theorem ro_of_lits {cs : List Value} {l : List Lit} (hk : Tryz.prog.keyLits 4 72 cs = some l) :
    ∃ o : Int × Nat × Int, cs = [.int .i64 o.1, .int .u16 (o.2.1 : Int), .int .i64 o.2.2] ∧ o.2.1 < 65536 ∧ (-9223372036854775808 ≤ o.1 ∧ o.1 ≤ 9223372036854775807) ∧ (-9223372036854775808 ≤ o.2.2 ∧ o.2.2 ≤ 9223372036854775807) := by
  have e := cells_of_lits 4 _ tiledRo _ _ _ hk
  have hal := keyLits_alike hk litsRo
  have w := keyLits_wf hk
  match l, hal, e, w with
  | [x0, x1, x2], ⟨h0, h1, h2, _⟩, e, w =>
    obtain ⟨a0, rfl⟩ := int_likeRo h0
    obtain ⟨a1, rfl⟩ := int_likeRo h1
    obtain ⟨a2, rfl⟩ := int_likeRo h2
    have b1 := I2.bounds_u16 (w (.int .u16 a1) (by simp))
    obtain ⟨m1, rfl⟩ : ∃ m1 : Nat, a1 = m1 := ⟨a1.toNat, by omega⟩
    exact ⟨(a0, m1, a2), e, show m1 < 65536 by omega, bounds_i64 (w (.int .i64 a0) (by simp)), bounds_i64 (w (.int .i64 a2) (by simp))⟩
theorem cf_of_lits {cs : List Value} {l : List Lit} (hk : Tryz.prog.keyLits 4 24 cs = some l) :
    ∃ sd : Nat, ∃ lo de ah : Int, cs = [.int .u32 (sd : Int), .int .i64 lo, .int .i64 de, .int .i64 ah] ∧ sd < 4294967296 ∧ (-9223372036854775808 ≤ lo ∧ lo ≤ 9223372036854775807) ∧ (-9223372036854775808 ≤ de ∧ de ≤ 9223372036854775807) ∧ (-9223372036854775808 ≤ ah ∧ ah ≤ 9223372036854775807) := by
  have e := cells_of_lits 4 _ tiledCf _ _ _ hk
  have hal := keyLits_alike hk litsCf
  have w := keyLits_wf hk
  match l, hal, e, w with
  | [x0, x1, x2, x3], ⟨h0, h1, h2, h3, _⟩, e, w =>
    obtain ⟨a0, rfl⟩ := int_likeRo h0
    obtain ⟨a1, rfl⟩ := int_likeRo h1
    obtain ⟨a2, rfl⟩ := int_likeRo h2
    obtain ⟨a3, rfl⟩ := int_likeRo h3
    have b0 := I2.bounds_u32 (w (.int .u32 a0) (by simp))
    obtain ⟨m0, rfl⟩ : ∃ m0 : Nat, a0 = m0 := ⟨a0.toNat, by omega⟩
    exact ⟨m0, a1, a2, a3, e, by omega, bounds_i64 (w (.int .i64 a1) (by simp)), bounds_i64 (w (.int .i64 a2) (by simp)), bounds_i64 (w (.int .i64 a3) (by simp))⟩
theorem open_cfg {H : Type} {enc : TypeId × Value → H} {W : World} {base : Nat} {spare : Nat → Bool} {held : Bool} {r : Reach} {b0 : Nat} {v : Value} {d : DataW H} {p : List MemPlace}
    (hv : Value.okWide Tryz.prog W r b0 24 v) (h : DataW.Trod enc Tryz.prog W base spare held 24 v d p) :
    ∃ sd : Nat, ∃ lo de ah : Int, v = .agg #[.int .u32 (sd : Int), .int .i64 lo, .int .i64 de, .int .i64 ah] ∧ sd < 4294967296 ∧ (-9223372036854775808 ≤ lo ∧ lo ≤ 9223372036854775807) ∧ (-9223372036854775808 ≤ de ∧ de ≤ 9223372036854775807) ∧ (-9223372036854775808 ≤ ah ∧ ah ≤ 9223372036854775807) := by
  obtain ⟨fuel, hf⟩ := h
  obtain ⟨hk, _⟩ := keyLits_of_trod 4 _ keyCf _ _ _ hf
  obtain ⟨sd, lo, de, ah, e, h0⟩ := cf_of_lits hk
  have hu := Tryz.underlying24
  simp only [Value.okWide, hu] at hv
  obtain ⟨cs, rfl, _, _⟩ := hv
  refine ⟨sd, lo, de, ah, ?_, h0⟩
  have e2 : cs.toList = [.int .u32 (sd : Int), .int .i64 lo, .int .i64 de, .int .i64 ah] := e
  exact congrArg Value.agg (Array.ext' e2)
set_option maxRecDepth 100000 in
theorem open_rops {H : Type} {enc : TypeId × Value → H} {W : World} {base : Nat} {spare : Nat → Bool} {held : Bool} {t : TypeId} {r : Reach} {b0 : Nat} {v : Value} {d : DataW H} {p : List MemPlace}
    (ht : Tryz.prog.underlying t = some (.slice 72)) (hv : Value.okWide Tryz.prog W r b0 t v) (h : DataW.Trod enc Tryz.prog W base spare held t v d p) :
    ∃ a cap, ∃ ops : List (Int × Nat × Int), v = .slice a ops.length cap ∧ ROps W a ops ∧ ops.length ≤ cap ∧ cap ≤ maxLen := by
  have hc3 : Tryz.prog.cellsOf 72 = 3 := by kernel_rfl
  obtain ⟨a0, len0, cap0, rfl⟩ := okWide_slice ht hv
  obtain ⟨fuel, hf⟩ := h
  rcases open_slice ht hf with ⟨hcs, _⟩ | ⟨a, len, cap, m, n, D, Pl, hcs, hb, hl, hm, hmm, _, hi⟩
  · simp [Value.cells] at hcs
    obtain ⟨rfl, rfl, rfl⟩ := hcs
    exact ⟨none, 0, [], rfl, ⟨fun x hx => by simp at hx, fun h => by simp at h⟩, by simp, by simp [maxLen]⟩
  · simp [Value.cells] at hcs
    obtain ⟨rfl, rfl, rfl⟩ := hcs
    have hlm : len0 ≤ m := by rw [hmm]; split <;> omega
    have each : ∀ i, i < len0 → ∃ o : Int × Nat × Int, (W.cell? (a.add (i * 3 + 0)) = some (.int .i64 o.1) ∧ W.cell? (a.add (i * 3 + 1)) = some (.int .u16 (o.2.1 : Int)) ∧ W.cell? (a.add (i * 3 + 2)) = some (.int .i64 o.2.2)) ∧
        (o.2.1 < 65536 ∧ (-9223372036854775808 ≤ o.1 ∧ o.1 ≤ 9223372036854775807) ∧ (-9223372036854775808 ≤ o.2.2 ∧ o.2.2 ≤ 9223372036854775807)) := by
      intro i hil
      obtain ⟨cs', hcc, ht'⟩ := hi i (by omega)
      rw [hc3] at hcc
      obtain ⟨hk, _⟩ := keyLits_of_trod 4 _ keyRo _ _ _ ht'
      obtain ⟨o, e, hw⟩ := ro_of_lits hk
      obtain ⟨_, hcl2, hat⟩ := World.cells?_some hcc
      have g : ∀ k, k < 3 → W.cell? (a.add (i * 3 + k)) = ([.int .i64 o.1, .int .u16 (o.2.1 : Int), .int .i64 o.2.2] : List Value)[k]? := fun k hk => by
        have g := hat k hk
        rw [← Go.Deep.add_add, g, e]
      exact ⟨o, ⟨g 0 (by omega), g 1 (by omega), g 2 (by omega)⟩, hw⟩
    obtain ⟨ops, hol, hops⟩ := I2.list_of len0 each
    subst hol
    refine ⟨some a, cap0, ops, rfl, ⟨fun x hx => ?_, fun hp => ?_⟩, hl, hm⟩
    · obtain ⟨i, hi⟩ := List.getElem?_of_mem hx
      exact (hops i x hi).2
    · obtain ⟨b, off, spot⟩ := a
      obtain ⟨x, hx⟩ : ∃ x, ops[0]? = some x := ⟨ops[0]'(by omega), by simp⟩
      have c0 := (hops 0 x hx).1.1
      have hspot : spot = none := by simpa [Addr.add] using World.cell?_spot c0
      subst hspot
      have hadd : ∀ j, (⟨b, off, none⟩ : Addr).add j = ⟨b, off + j, none⟩ := fun j => by unfold Addr.add; split <;> simp_all
      refine ⟨b, off, rfl, ?_, fun j y hy => ?_⟩
      · have := World.block_lt_of_cell? W _ c0
        rw [hadd] at this
        exact this
      · have := (hops j y hy).1
        simp only [hadd, ← Nat.add_assoc, Nat.add_zero] at this
        exact ⟨this.1, this.2.1, this.2.2⟩
end Go.Proofs.YtckkpgopddnkiaaGreat.Rl
namespace Go.Proofs.YtckkpgopddnkiaaGreat.Rl
open Go.RowKit Go.Sort Go.Shelf Go.Proofs.YtckkpgopddnkiaaGreat.Gm Go.Proofs.YtckkpgopddnkiaaGreat.RingE Go.Proofs.YtckkpgopddnkiaaGreat.Inputq
set_option linter.all false

theorem keyI2 : Tryz.prog.keyTypeAt 6 32 = true := by kernel_rfl
theorem tiledI2 : Tryz.prog.tiled 6 32 = true := by kernel_rfl
theorem litsI2 : (Tryz.prog.keyLits 6 32 (inC (0, 0)).toList).isSome = true := by kernel_rfl
theorem cellsI2 : (inC (0, 0)).toList.length = Tryz.prog.cellsOf 32 := by kernel_rfl
theorem sameK_in {x : Nat × Nat} (h : x.1 < 65536 ∧ x.2 < 65536) : Eql.SameK (inC (0, 0)).toList (inC x).toList := by
  obtain ⟨h1, h2⟩ := h
  refine ⟨rfl, fun i a b ha hb => ?_⟩
  match i with
  | 0 =>
    simp [inC] at ha hb
    subst ha; subst hb
    exact .inr ⟨_, _, _, rfl, rfl, by simp [Lit.wf, IntKind.min, IntKind.max, IntKind.bits, IntKind.signed] <;> omega⟩
  | 1 =>
    simp [inC] at ha hb
    subst ha; subst hb
    exact .inr ⟨_, _, _, rfl, rfl, by simp [Lit.wf, IntKind.min, IntKind.max, IntKind.bits, IntKind.signed] <;> omega⟩
  | i + 2 => simp [inC] at ha
theorem in_same (W : World) (x : Nat × Nat) (hx : x.1 < 65536 ∧ x.2 < 65536) : (Op.equalIn 10000 32 (.agg #[.int .u16 (x.1 : Int), .int .u16 (x.2 : Int)]) (.agg #[.int .u16 (x.1 : Int), .int .u16 (x.2 : Int)])).run Tryz.prog W = .ok true W := by
  obtain ⟨r, hr, hi⟩ := Eql.eql_run (P := Tryz.prog) W (m := 6) (by decide) keyI2 tiledI2 (by kernel_rfl) (inC (0, 0)).toList litsI2 cellsI2 (xs := inC x) (ys := inC x) (sameK_in hx) (sameK_in hx)
  rw [hi.2 rfl] at hr
  exact hr
theorem knV_lt {c : Cfg} {x : H} (j : J c x) {i : Nat} (hi : i < 2) (n : Int) : knV x i n < 65536 := by
  unfold knV
  split
  · rw [List.getD_eq_getElem?_getD]
    cases h : (x.ks i)[n.toNat]? with
    | none => simp
    | some v => exact j.kv i hi v (List.mem_of_getElem? h)
  · omega
/-- The three ways of a frame. -/
theorem at_ways {c : Cfg} {x : H} (j : J c x) (n : Int) : (sureH x < n ∧ atHE x n = 250 ∧ atHF c x n = zF ∧ atHS c x n = 0) ∨
    (¬ sureH x < n ∧ (n < 0 ∨ n < (x.us.length : Int) - 63) ∧ atHE x n = 90 ∧ atHF c x n = zF ∧ atHS c x n = 0) ∨
    (¬ sureH x < n ∧ ¬ n < 0 ∧ ¬ n < (x.us.length : Int) - 63 ∧ n.toNat ≤ x.us.length ∧ atHE x n = 0 ∧ atHF c x n = pl c.sd x.us n.toNat ∧ atHS c x n = sumL (stB (pl c.sd x.us n.toNat))) := by
  have hs := (sureH_le x).1
  by_cases h1 : sureH x < n
  · have e : atHE x n = 250 := by unfold atHE; rw [if_pos h1]
    exact .inl ⟨h1, e, by unfold atHF; rw [e, if_neg (by omega)], by unfold atHS; rw [e, if_neg (by omega)]⟩
  · by_cases h2 : n < ((x.us.length - 63 : Nat) : Int)
    · have e : atHE x n = 90 := by unfold atHE; rw [if_neg h1, if_pos h2]
      exact .inr (.inl ⟨h1, by omega, e, by unfold atHF; rw [e, if_neg (by omega)], by unfold atHS; rw [e, if_neg (by omega)]⟩)
    · have e : atHE x n = 0 := by unfold atHE; rw [if_neg h1, if_neg h2]
      exact .inr (.inr ⟨h1, by omega, by omega, by omega, e, by unfold atHF; rw [if_pos e], by unfold atHS; rw [if_pos e]⟩)
theorem J.low_0 {c : Cfg} {x : H} (j : J c x) (h : x.us.length < 64) : x.low = 0 := by have := j.lw; omega
theorem kn_ways {c : Cfg} {x : H} (j : J c x) (hu : x.us.length < 64) (n : Int) : ((n < 0 ∨ confH x ≤ n) ∧ knB x n = false ∧ knV x 0 n = 0 ∧ knV x 1 n = 0) ∨
    (¬ n < 0 ∧ ¬ confH x ≤ n ∧ knB x n = true ∧ knV x 0 n = (x.ks 0).getD n.toNat 0 ∧ knV x 1 n = (x.ks 1).getD n.toNat 0 ∧ n.toNat < (x.ks 0).length ∧ n.toNat < (x.ks 1).length) := by
  have hl := j.low_0 hu
  have hm := minI_le (x.ks 0).length (x.ks 1).length
  have ec : confH x = minI (x.ks 0).length (x.ks 1).length := rfl
  by_cases h : n < 0 ∨ confH x ≤ n
  · have e : knB x n = false := by unfold knB; rw [decide_eq_false_iff_not]; rw [hl]; omega
    exact .inl ⟨h, e, by unfold knV; rw [e]; rfl, by unfold knV; rw [e]; rfl⟩
  · have e : knB x n = true := by unfold knB; rw [decide_eq_true_eq]; rw [hl]; omega
    exact .inr ⟨by omega, by omega, e, by unfold knV; rw [e]; rfl, by unfold knV; rw [e]; rfl, by omega, by omega⟩

/-- What lies there behind the asking. -/
structure TB (w W : World) (cf : Cfg) (x : H) (y : DV) (E C : Array Value) (a b : Nat) (k8 k10 k14 : Nat) : Prop where
  b8 : Blk W k8 35 E
  b10 : Blk W k10 47 C
  b14 : Blk W k14 32 #[.int .u16 (a : Int), .int .u16 (b : Int)]
  dc : Doc W y x
  lo : Below w.heap.size w W
theorem TB.below {w W V : World} {cf : Cfg} {x : H} {y : DV} {E C : Array Value} {a b k8 k10 k14 : Nat} (h : TB w W cf x y E C a b k8 k10 k14) (hb : Below W.heap.size W V) : TB w V cf x y E C a b k8 k10 k14 :=
  ⟨h.b8.below hb h.b8.lt, h.b10.below hb h.b10.lt, h.b14.below hb h.b14.lt, h.dc.below hb, h.lo.trans (hb.mono h.lo.size)⟩
section
attribute [local go_sem ↓] exec_ldE exec33 exec_bdZ
attribute [local go_sem] loadE_at loadR_at cellsAt_drew
set_option maxRecDepth 100000 in
set_option maxHeartbeats 8000000 in
theorem tells_bad (w : World) (sd : Nat) (lo de ah : Int) (hsd : sd < 4294967296) (v : Value) (fr : Int) (h : rightB lo de ah = false) :
    Calls Tryz.prog 4 #[.agg #[.int .u32 (sd : Int), .int .i64 lo, .int .i64 de, .int .i64 ah], v, .int .i64 fr] w fun e w' => e = .returned (.bool true) ∧ Below w.heap.size w w' := by
  have pA := Lib.hid (fun W => awake25 W)
  have pP := Lib.hid (fun W => played_bad W sd lo de ah hsd v h)
  obtain ⟨W1, hW1⟩ : ∃ W1, W1 = w.alloc (.cells #[.int .u32 (sd : Int), .int .i64 lo, .int .i64 de, .int .i64 ah] 24) := ⟨_, rfl⟩
  have hX : Blk W1 w.heap.size 24 #[.int .u32 (sd : Int), .int .i64 lo, .int .i64 de, .int .i64 ah] := by rw [hW1]; exact Blk.new _ _ _
  have hB : Below w.heap.size w W1 := by rw [hW1]; exact (Below.refl _ w).alloc (Nat.le_refl _) _
  clear h
  go_enter Tryz.func4, Tryz.ntmps4
  go_upto_region 1 with fail
  rw [← hW1]
  clear hW1
  go_wp2_with fail
  refine (pA.out _).mono ?_
  rintro e w1 ⟨rfl, b1⟩
  have hX1 := hX.below b1 hX.lt
  have k0 := hX1.cell 0
  have k1 := hX1.cell 1
  have k2 := hX1.cell 2
  have k3 := hX1.cell 3
  simp only [List.getElem?_toArray, List.getElem?_cons_zero, List.getElem?_cons_succ] at k0 k1 k2 k3
  have hb1 := hB.trans (b1.mono hB.size)
  have HB := Lib.hid hb1
  clear hX hX1 hB b1
  go_wp2_with fail
  refine (pP.out _).mono ?_
  rintro e w2 ⟨E, rfl, hes, heo, b2⟩
  have hei : (Tryz.prog.info? 35).map (·.size) = some E.size := by rw [hes]; exact infoE
  have hnew := Blk.new w2 35 zE
  have hzz : zE.size = E.size := by rw [hes]; rfl
  have hb2 := HB.out.trans (b2.mono HB.out.size)
  have HB2 := Lib.hid hb2
  clear hb1 b2 hb2 k0 k1 k2 k3
  go_wp2_with (first | (refine wpList_store_blk (by rfl) 35 _ _ (by rfl) w2.heap.size E (by rfl) (by rfl) _ _ hnew hei hzz heo ?_; intro W7 hd7 ht7) | fail)
  go_ret
  exact ⟨rfl, HB2.out.trans ((((Below.refl w2.heap.size w2).alloc (Nat.le_refl _) _).trans (ht7.below (by simp) (fun k hk => by omega))).mono HB2.out.size)⟩

set_option maxRecDepth 100000 in
set_option maxHeartbeats 16000000 in
theorem tells_in (w : World) (cf : Cfg) (hsd : cf.sd < 4294967296) (hlo : cf.lo < 2) (hah : 1 ≤ cf.ah ∧ cf.ah ≤ 16) (hde : 0 ≤ cf.de ∧ cf.de ≤ 8) (a : Option Addr) (c : Nat) (ops : List (Int × Nat × Int)) (hops : ROps w a ops) (hlen : ops.length ≤ 9223372036854775807) (fr : Int) (hfr : -9223372036854775808 ≤ fr ∧ fr ≤ 9223372036854775807) :
    Calls Tryz.prog 4 #[.agg #[.int .u32 (cf.sd : Int), .int .i64 (cf.lo : Int), .int .i64 cf.de, .int .i64 cf.ah], .slice a ops.length c, .int .i64 fr] w fun e w' => e = .returned (.bool true) ∧ Below w.heap.size w w' := by
  have pA := Lib.hid (fun W => awake25 W)
  have pP := Lib.hid (fun W (hb : Below w.heap.size w W) => played_in W cf hsd hlo hah hde a c ops (hops.below hb) hlen)
  obtain ⟨W1, hW1⟩ : ∃ W1, W1 = w.alloc (.cells #[.int .u32 (cf.sd : Int), .int .i64 (cf.lo : Int), .int .i64 cf.de, .int .i64 cf.ah] 24) := ⟨_, rfl⟩
  have hX : Blk W1 w.heap.size 24 #[.int .u32 (cf.sd : Int), .int .i64 (cf.lo : Int), .int .i64 cf.de, .int .i64 cf.ah] := by rw [hW1]; exact Blk.new _ _ _
  have hB : Below w.heap.size w W1 := by rw [hW1]; exact (Below.refl _ w).alloc (Nat.le_refl _) _
  obtain ⟨l, hl⟩ : ∃ l, ops.length = l := ⟨_, rfl⟩
  rw [hl] at pP ⊢
  clear hops hl hlen hsd hlo hah hde
  have HFR := Lib.hid hfr
  clear hfr
  go_enter Tryz.func4, Tryz.ntmps4
  go_upto_region 1 with fail
  rw [← hW1]
  clear hW1
  go_wp2_with fail
  refine (pA.out _).mono ?_
  rintro e w1 ⟨rfl, b1⟩
  have hX1 := hX.below b1 hX.lt
  have k0 := hX1.cell 0
  have k1 := hX1.cell 1
  have k2 := hX1.cell 2
  have k3 := hX1.cell 3
  simp only [List.getElem?_toArray, List.getElem?_cons_zero, List.getElem?_cons_succ] at k0 k1 k2 k3
  have hb1 := hB.trans (b1.mono hB.size)
  have HB := Lib.hid hb1
  clear hX hX1 hB b1 hb1
  go_wp2_with fail
  refine (pP.out _ HB.out).mono ?_
  rintro e w2 ⟨s, x, y, rfl, hDD⟩
  have hes := dE_size cf y x
  have hei := dE_info cf y x
  have heo := dE_one cf y x
  have hnew := Blk.new w2 35 zE
  have HDD := Lib.hid hDD
  obtain ⟨E, hE⟩ : ∃ E, dE cf y x = E := ⟨_, rfl⟩
  have HE := Lib.hid hE
  rw [hE] at hes hei heo ⊢
  have hzz : zE.size = E.size := by rw [hes]; rfl
  obtain ⟨g, hg⟩ : ∃ g, s.g = g := ⟨_, rfl⟩
  rw [hg]
  have HG := Lib.hid hg
  clear hDD hE hg k0 k1 k2 k3 pA pP
  go_upto_region 6 with (first | (refine wpList_store_blk (by rfl) 35 _ _ (by rfl) w2.heap.size E (by rfl) (by rfl) _ _ hnew hei hzz heo ?_; intro W3 hd3 ht3) | fail)
  have hb3 : Below w2.heap.size w2 W3 := ((Below.refl w2.heap.size w2).alloc (Nat.le_refl _) _).trans (ht3.below (by simp) (fun k hk => by omega))
  have hD3 := HDD.out.below hb3
  have hun := hD3.un
  obtain ⟨C, LC⟩ := let_of (atHF cf x fr)
  have pAt : ∀ W, Below W3.heap.size W3 W → Calls Tryz.prog 7 #[.pointer (some ⟨g, 0, none⟩), .int .i64 fr] W fun e w' => e = .returned (.tuple #[.agg C, .int .i64 (atHE x fr)]) ∧ Below W.heap.size W w' := fun W hb => by
    have := at_h W cf s x fr (hD3.ha.below hb) hD3.j HFR.out.2
    rw [HG.out] at this
    exact this.mono fun e w' ⟨C', LC', he, hb'⟩ => ⟨by rw [he, LC'.eq, LC.eq], hb'⟩
  have pSu : ∀ W, Below W3.heap.size W3 W → Calls Tryz.prog 8 #[.pointer (some ⟨g, 0, none⟩), .int .i64 fr] W fun e w' => e = .returned (.tuple #[.int .u32 (atHS cf x fr), .int .i64 (atHE x fr)]) ∧ Below W.heap.size W w' := fun W hb => by
    have := sum_h W cf s x fr (hD3.ha.below hb) hD3.j HFR.out.2
    rw [HG.out] at this
    exact this
  have pKn : ∀ W, Below W3.heap.size W3 W → Calls Tryz.prog 9 #[.pointer (some ⟨g, 0, none⟩), .int .i64 fr] W fun e w' => e = .returned (.tuple #[.agg #[.int .u16 (knV x 0 fr : Int), .int .u16 (knV x 1 fr : Int)], .bool (knB x fr)]) ∧ Below W.heap.size W w' := fun W hb => by
    have := known_h W cf s x fr (hD3.ha.below hb) hD3.j HFR.out.2
    rw [HG.out] at this
    exact this
  have PAt := Lib.hid pAt
  have PSu := Lib.hid pSu
  have PKn := Lib.hid pKn
  have HLC := Lib.hid LC
  have HW := Lib.hid (at_ways hD3.j fr)
  have HKW := Lib.hid (kn_ways hD3.j (by omega) fr)
  have ha2 := knV_lt hD3.j (i := 0) (by omega) fr
  have hb2' := knV_lt hD3.j (i := 1) (by omega) fr
  have HJ := Lib.hid hD3.j
  have HIB := Lib.hid hD3.ib
  have HD3 := Lib.hid (show Doc W3 y x ∧ Below w.heap.size w W3 from ⟨hD3.dc, HB.out.trans (hD3.lo.mono HB.out.size)⟩)
  have HUN := Lib.hid hun
  have HE8 := Lib.hid hd3
  have hzi := Tryz.zeroCells47
  obtain ⟨Zs, LZs⟩ := let_of zF
  have hZst : Tryz.zeroCells47 = Zs := by rw [LZs.eq, ← stA_zero]
  have hbz := buildZ_at hZst
  have hcz : Zs.size = C.size := by rw [LZs.size, LC.size]
  have hci := LC.info
  have hco := LC.one
  clear hnew hzz hb3 hD3 LC pAt pSu pKn hd3 ht3 HDD HB hun hzi
  generalize knV x 0 fr = va at *
  generalize knV x 1 fr = vb at *
  generalize atHS cf x fr = sm at *
  generalize atHE x fr = ec at *
  generalize knB x fr = kb at *
  go_wp2_with fail
  refine (PAt.out _ (Below.refl _ _)).mono ?_
  rintro e w4 ⟨rfl, b4⟩
  have hn4 := Blk.new w4 47 Zs
  have HB4 := Lib.hid b4
  clear b4
  go_upto_region 7 with (first | (refine wpList_store_blk (by rfl) 47 _ _ (by rfl) w4.heap.size C (by rfl) (by rfl) _ _ hn4 hci hcz hco ?_; intro W5 hd5 ht5) | fail)
  have hb5 : Below w4.heap.size w4 W5 := ((Below.refl w4.heap.size w4).alloc (Nat.le_refl _) _).trans (ht5.below (by simp) (fun k hk => by omega))
  have HB5 := Lib.hid (HB4.out.trans (hb5.mono HB4.out.size))
  have HC5 := Lib.hid hd5
  clear hb5 hd5 ht5 HB4 hn4
  go_wp2_with fail
  refine (PSu.out _ HB5.out).mono ?_
  rintro e w6 ⟨rfl, b6⟩
  have HB6 := Lib.hid (HB5.out.trans (b6.mono HB5.out.size))
  have HC6 := Lib.hid (HC5.out.below b6 HC5.out.lt)
  clear b6 HB5 HC5
  go_wp2_with fail
  refine (PKn.out _ HB6.out).mono ?_
  rintro e w7 ⟨rfl, b7⟩
  have hTB : TB w (w7.alloc (.cells #[.int .u16 (va : Int), .int .u16 (vb : Int)] 32)) cf x y E C va vb w2.heap.size w4.heap.size w7.heap.size := by
    have hb37 := HB6.out.trans (b7.mono HB6.out.size)
    have hb38 := hb37.alloc hb37.size (.cells #[.int .u16 (va : Int), .int .u16 (vb : Int)] 32)
    exact ⟨HE8.out.below hb38 HE8.out.lt, (HC6.out.below b7 HC6.out.lt).alloc _, Blk.new _ _ _, HD3.out.1.below hb38, HD3.out.2.trans (hb38.mono HD3.out.2.size)⟩
  have HTB := Lib.hid hTB
  have hb8 := hTB.b8
  clear hTB b7 HB6 HC6 HE8 HD3 PAt PSu PKn
  go_upto_region 11 with fail
  obtain ⟨V, hV⟩ : ∃ V, V = w7.alloc (.cells #[.int .u16 (va : Int), .int .u16 (vb : Int)] 32) := ⟨_, rfl⟩
  rw [← hV] at HTB hb8 ⊢
  clear hV
  have pRS := Lib.hid (fun W => rsure_any W cf x y HJ.out)
  rw [HE.out] at pRS
  go_upto_if 57 with (first | (refine wpList_load_blk (by rfl) 35 _ (by rfl) w2.heap.size (by rfl) _ E _ hb8 Tryz.underlying35 (by rfl) hei ?_) | fail)
  refine (pRS.out _).mono ?_
  rintro e w8 ⟨rfl, b8⟩
  have hT8 := HTB.out.below b8
  have HT8 := Lib.hid hT8
  have c8 : cellsAt w8 w2.heap.size = E := cellsAt_blk hT8.b8
  have c10 : cellsAt w8 w4.heap.size = C := cellsAt_blk hT8.b10
  have hcs : C.size = 66 := HLC.out.size
  have u7 : w8.cell? ⟨w2.heap.size, 7, none⟩ = some (.slice y.au x.us.length y.cu) := (dE_cells (by rw [HE.out]; exact hT8.b8)).2.2.2.2.2.2.2.1
  have HUL := Lib.hid (show x.us.length ≤ 60 from HUN.out.1)
  have hwl : IntKind.i64.wrap ((x.us.length : Int) - 63) = (x.us.length : Int) - 63 := IntWalk.i64_in _ (by have := HUL.out; omega)
  have pST := Lib.hid (show ∀ n : Nat, n ≤ x.us.length → atHF cf x fr = pl cf.sd x.us n → ∀ W, Below w8.heap.size w8 W → Calls Tryz.prog 11 #[.agg E, .int .i64 (n : Int)] W fun e w' => e = .returned (.agg C) ∧ Below W.heap.size W w' from fun n hn hf W hb => by
    have := rstate_any W cf x y (HT8.out.dc.below hb) HJ.out HIB.out n hn
    rw [HE.out] at this
    refine this.mono fun e w' ⟨C', LC', he, hb'⟩ => ⟨?_, hb'⟩
    have hL := HLC.out
    rw [hf] at hL
    rw [he, LC'.eq, hL.eq])
  have pSM := Lib.hid (show ∀ n : Nat, n ≤ x.us.length → atHF cf x fr = pl cf.sd x.us n → ∀ W, Calls Tryz.prog 12 #[.agg C] W fun e w' => e = .returned (.int .u32 (sumL (stB (pl cf.sd x.us n)))) ∧ Below W.heap.size W w' from fun n hn hf W => by
    have hL := HLC.out
    rw [hf] at hL
    have hu := HUL.out
    have := rsum_any W (pl cf.sd x.us n) ((pl_inv HJ.out.sd x.us n).wf (by omega) (by omega) (by omega))
    unfold stV at this
    rw [← hL.eq] at this
    exact this)
  have HEQ := Lib.hid (show ∀ f, atHF cf x fr = f → Wf f → ∀ W, (Op.equalIn 10000 47 (.agg C) (.agg C)).run Tryz.prog W = .ok true W from fun f hf hw => by
    have hL := HLC.out
    rw [hf] at hL
    exact let_same3 hL hw)
  clear hT8 b8 hb8 pRS HTB
  go_upto_if 57 with fail
  go_cut [] (fun wx => TB w wx cf x y E C va vb w2.heap.size w4.heap.size w7.heap.size)
  case first =>
    rcases HW.out with ⟨h1, rfl, hf, rfl⟩ | ⟨h1, h2, rfl, hf, rfl⟩ | ⟨h1, h2, h3, h4, rfl, hf, hsm⟩
    · have hEq := HEQ.out _ hf ⟨fun j hj => by simp [zF], by simp [zF]⟩
      have hCZ : Zs = C := by have := HLC.out; rw [hf] at this; rw [this.eq, LZs.eq]
      rw [hCZ] at hbz
      clear hf hCZ hwl u7 hZst
      go_wp2_with fail
      go_meet
      exact HT8.out
    · have hEq := HEQ.out _ hf ⟨fun j hj => by simp [zF], by simp [zF]⟩
      have hCZ : Zs = C := by have := HLC.out; rw [hf] at this; rw [this.eq, LZs.eq]
      rw [hCZ] at hbz
      generalize x.us.length = l2 at *
      clear hf hCZ hZst
      by_cases hn : fr < 0
      · clear h2
        go_wp2_with fail
        go_meet
        exact HT8.out
      · have hn2 : fr < (l2 : Int) - 63 := by omega
        clear h2
        go_wp2_with fail
        go_meet
        exact HT8.out
    · have hu := HUL.out
      have hEq := HEQ.out _ hf ((pl_inv HJ.out.sd x.us _).wf (by omega) (by omega) (by omega))
      have hST := pST.out _ h4 hf
      have hSM := pSM.out _ h4 hf
      rw [show ((fr.toNat : Nat) : Int) = fr by omega] at hST
      rw [← hsm] at hSM
      have PST := Lib.hid hST
      have PSM := Lib.hid hSM
      clear hST hSM hf hsm h4 hu
      generalize x.us.length = l2 at *
      go_upto_region 17 with fail
      go_wp2_with fail
      refine (PST.out _ (Below.refl _ _)).mono ?_
      rintro e w9 ⟨rfl, b9⟩
      have hn9 := Blk.new w9 47 Zs
      have HT9 := Lib.hid (HT8.out.below b9)
      clear b9 c8 c10 u7 hwl
      go_upto_region 18 with (first | (refine wpList_store_blk (by rfl) 47 _ _ (by rfl) w9.heap.size C (by rfl) (by rfl) _ _ hn9 hci hcz hco ?_; intro W10 hd10 ht10) | fail)
      have hb10 : Below w9.heap.size w9 W10 := ((Below.refl w9.heap.size w9).alloc (Nat.le_refl _) _).trans (ht10.below (by simp) (fun k hk => by omega))
      have hT10 := HT9.out.below hb10
      have c10 : cellsAt W10 w4.heap.size = C := cellsAt_blk hT10.b10
      have c16 : cellsAt W10 w9.heap.size = C := cellsAt_blk hd10
      have HT10 := Lib.hid hT10
      clear hT10 hb10 ht10 hd10 hn9 hZst
      go_wp2_with fail
      refine (PSM.out _).mono ?_
      rintro e w11 ⟨rfl, b11⟩
      have HT11 := Lib.hid (HT10.out.below b11)
      clear b11 c10 c16
      go_wp2_with fail
      go_meet
      exact HT11.out
  case rest =>
    have hT := hcut
    have HT := Lib.hid hT
    have cE : cellsAt wc w2.heap.size = E := cellsAt_blk hT.b8
    have p0 := hT.b14.cell 0
    have p1 := hT.b14.cell 1
    simp only [List.getElem?_toArray, List.getElem?_cons_zero, List.getElem?_cons_succ] at p0 p1
    have pRC := Lib.hid (fun W => rconf_any W cf x y)
    have pRS := Lib.hid (fun W => rsure_any W cf x y HJ.out)
    rw [HE.out] at pRC pRS
    have hes12 : E.size = 12 := hes
    clear hcut hT c8 c10 u7 hwl pST pSM HEQ HW HT8 hbz hZst
    rcases HKW.out with ⟨h1, rfl, rfl, rfl⟩ | ⟨h1, h2, rfl, hva, hvb, h3, h4⟩
    · have hEq : ∀ W, (Op.equalIn 10000 32 (.agg #[.int .u16 0, .int .u16 0]) (.agg #[.int .u16 0, .int .u16 0])).run Tryz.prog W = .ok true W := fun W => in_same W (0, 0) ⟨by decide, by decide⟩
      have p0' : wc.cell? ⟨w7.heap.size, 0, none⟩ = some (.int .u16 0) := p0
      have p1' : wc.cell? ⟨w7.heap.size, 1, none⟩ = some (.int .u16 0) := p1
      clear p0 p1
      by_cases hn : fr < 0
      · have HLO := Lib.hid HT.out.lo
        clear h1
        go_wp2_with fail
        go_ret
        exact ⟨rfl, HLO.out⟩
      · have hn2 : confH x ≤ fr := by omega
        generalize confH x = cf9 at *
        clear h1
        go_wp2_with fail
        refine (pRC.out _).mono ?_
        rintro e w9 ⟨rfl, b9⟩
        have hT9 := HT.out.below b9
        have p0 := hT9.b14.cell 0
        have p1 := hT9.b14.cell 1
        simp only [List.getElem?_toArray, List.getElem?_cons_zero, List.getElem?_cons_succ] at p0 p1
        have p0'' : w9.cell? ⟨w7.heap.size, 0, none⟩ = some (.int .u16 0) := p0
        have p1'' : w9.cell? ⟨w7.heap.size, 1, none⟩ = some (.int .u16 0) := p1
        have HLO := Lib.hid hT9.lo
        clear hT9 b9 p0 p1 p0' p1' cE
        go_wp2_with fail
        go_ret
        exact ⟨rfl, HLO.out⟩
    · generalize confH x = cf9 at *
      go_wp2_with fail
      refine (pRC.out _).mono ?_
      rintro e w9 ⟨rfl, b9⟩
      have hT9 := HT.out.below b9
      have cE9 : cellsAt w9 w2.heap.size = E := cellsAt_blk hT9.b8
      have HT9 := Lib.hid hT9
      clear hT9 b9 cE p0 p1 HT
      go_wp2_with fail
      refine (pRS.out _).mono ?_
      rintro e w10 ⟨rfl, b10⟩
      have hT10 := HT9.out.below b10
      have hsn := HUL.out
      have hsl := sureH_le x
      have hs0 := sure_m1 HJ.out
      have hws : IntKind.i64.wrap (sureH x - 64) = sureH x - 64 := IntWalk.i64_in _ (by omega)
      have hnl : ¬ fr < sureH x - 64 := by omega
      have HT10 := Lib.hid hT10
      have hD := hT10.dc
      obtain ⟨g0, hg0, -, q0⟩ := hD.at0 (f := fr.toNat) h3
      obtain ⟨g1, hg1, -, q1⟩ := hD.at1 (f := fr.toNat) h4
      obtain ⟨-, -, -, d3, d4, -⟩ := dE_cells (c := cf) (x := x) (y := y) (W := w10) (g := w2.heap.size) (by rw [HE.out]; exact hT10.b8)
      rw [hg0] at d3
      rw [hg1] at d4
      rw [← hva] at q0
      rw [← hvb] at q1
      have p0 := hT10.b14.cell 0
      have p1 := hT10.b14.cell 1
      simp only [List.getElem?_toArray, List.getElem?_cons_zero, List.getElem?_cons_succ] at p0 p1
      have hEq := fun W => in_same W (va, vb) ⟨ha2, hb2'⟩
      have hf0 : (0 : Int) ≤ fr := by omega
      have hl0 : fr < ((x.ks 0).length : Int) := by omega
      have hl1 : fr < ((x.ks 1).length : Int) := by omega
      generalize sureH x = su at *
      generalize (x.ks 0).length = l0 at *
      generalize (x.ks 1).length = l1 at *
      have HLO := Lib.hid HT10.out.lo
      clear hT10 hD hg0 hg1 hva hvb h3 h4 cE9 b10 HT9 HT10 hsl hs0 hsn
      go_upto_region 24 with fail
      clear hnl hws
      go_quiet (fail)
      have HLQ := Lib.hid (below_drewN HLO.out nq)
      clear d3 d4 q0 q1 p0 p1
      go_wp2_with fail
      go_ret
      exact ⟨rfl, HLQ.out⟩
end
theorem tells_law (w : World) (sd : Nat) (lo de ah : Int) (hsd : sd < 4294967296) (a : Option Addr) (c : Nat) (ops : List (Int × Nat × Int)) (hops : ROps w a ops) (hl : ops.length ≤ c) (hc : c ≤ maxLen) (fr : Int) (hfr : -9223372036854775808 ≤ fr ∧ fr ≤ 9223372036854775807) :
    Calls Tryz.prog 4 #[.agg #[.int .u32 (sd : Int), .int .i64 lo, .int .i64 de, .int .i64 ah], .slice a ops.length c, .int .i64 fr] w fun e w' => e = .returned (.bool true) ∧ Below w.heap.size w w' := by
  cases h : rightB lo de ah with
  | false => exact tells_bad w sd lo de ah hsd _ fr h
  | true =>
    unfold rightB at h
    simp only [decide_eq_true_eq] at h
    obtain ⟨l, rfl⟩ : ∃ l : Nat, lo = l := ⟨lo.toNat, by omega⟩
    exact tells_in w ⟨sd, l, de, ah⟩ hsd (show l < 2 by omega) ⟨h.2.2.1, h.2.2.2.1⟩ ⟨h.2.2.2.2.1, h.2.2.2.2.2⟩ a c ops hops (by simp only [maxLen] at hc; omega) fr hfr
end Go.Proofs.YtckkpgopddnkiaaGreat.Rl
