/-
  Texts joined: OpenRo, RdO. No condition.
-/
import Derived.Test.YtckkpgopddnkiaaGreatBRp20
import Derived.MapViews
namespace Go.Proofs.YtckkpgopddnkiaaGreat.Rl
open Go.RowKit Go.WideShapes Go.ChangeShapes Go.ChangeAt Go.Deep Go.Proofs.YtckkpgopddnkiaaGreat.Eql Go.Proofs.YtckkpgopddnkiaaGreat.Gm
set_option linter.all false

theorem keyRo : Tryz.prog.keyTypeAt 4 72 = true := by kernel_rfl
theorem tiledRo : Tryz.prog.tiled 4 72 = true := by kernel_rfl
theorem litsRo : Tryz.prog.keyLits 4 72 [.int .i64 0, .int .u16 0, .int .i64 0] = some [.int .i64 0, .int .u16 0, .int .i64 0] := by kernel_rfl
theorem keyCf : Tryz.prog.keyTypeAt 4 24 = true := by kernel_rfl
theorem tiledCf : Tryz.prog.tiled 4 24 = true := by kernel_rfl
theorem litsCf : Tryz.prog.keyLits 4 24 [.int .u32 0, .int .i64 0, .int .i64 0, .int .i64 0] = some [.int .u32 0, .int .i64 0, .int .i64 0, .int .i64 0] := by kernel_rfl
theorem int_likeRo {x : Lit} {k : IntKind} {n : Int} (h : x.sameKind (.int k n)) : ∃ m, x = .int k m := by
  cases x <;> simp [Lit.sameKind] at h
  subst h
  exact ⟨_, rfl⟩
theorem ro_of_lits {cs : List Value} {l : List Lit} (hk : Tryz.prog.keyLits 4 72 cs = some l) :
    ∃ o : Int × Nat × Int, cs = [.int .i64 o.1, .int .u16 (o.2.1 : Int), .int .i64 o.2.2] ∧ o.2.1 < 65536 ∧ (-9223372036854775808 ≤ o.1 ∧ o.1 ≤ 9223372036854775807) ∧ (-9223372036854775808 ≤ o.2.2 ∧ o.2.2 ≤ 9223372036854775807) := by
  have e := cells_of_lits 4 _ tiledRo _ _ _ hk
  have hal := keyLits_alike hk litsRo
  have w := keyLits_wf hk
  match l, hal, e, w with
  | [x0, x1, x2], ⟨h0, h1, h2, _⟩, e, w =>
    obtain ⟨a0, rfl⟩ := int_likeRo h0
    obtain ⟨a1, rfl⟩ := int_likeRo h1
    obtain ⟨a2, rfl⟩ := int_likeRo h2
    have b1 := I2.bounds_u16 (w (.int .u16 a1) (by simp))
    obtain ⟨m1, rfl⟩ : ∃ m1 : Nat, a1 = m1 := ⟨a1.toNat, by omega⟩
    exact ⟨(a0, m1, a2), e, show m1 < 65536 by omega, bounds_i64 (w (.int .i64 a0) (by simp)), bounds_i64 (w (.int .i64 a2) (by simp))⟩
theorem cf_of_lits {cs : List Value} {l : List Lit} (hk : Tryz.prog.keyLits 4 24 cs = some l) :
    ∃ sd : Nat, ∃ lo de ah : Int, cs = [.int .u32 (sd : Int), .int .i64 lo, .int .i64 de, .int .i64 ah] ∧ sd < 4294967296 ∧ (-9223372036854775808 ≤ lo ∧ lo ≤ 9223372036854775807) ∧ (-9223372036854775808 ≤ de ∧ de ≤ 9223372036854775807) ∧ (-9223372036854775808 ≤ ah ∧ ah ≤ 9223372036854775807) := by
  have e := cells_of_lits 4 _ tiledCf _ _ _ hk
  have hal := keyLits_alike hk litsCf
  have w := keyLits_wf hk
  match l, hal, e, w with
  | [x0, x1, x2, x3], ⟨h0, h1, h2, h3, _⟩, e, w =>
    obtain ⟨a0, rfl⟩ := int_likeRo h0
    obtain ⟨a1, rfl⟩ := int_likeRo h1
    obtain ⟨a2, rfl⟩ := int_likeRo h2
    obtain ⟨a3, rfl⟩ := int_likeRo h3
    have b0 := I2.bounds_u32 (w (.int .u32 a0) (by simp))
    obtain ⟨m0, rfl⟩ : ∃ m0 : Nat, a0 = m0 := ⟨a0.toNat, by omega⟩
    exact ⟨m0, a1, a2, a3, e, by omega, bounds_i64 (w (.int .i64 a1) (by simp)), bounds_i64 (w (.int .i64 a2) (by simp)), bounds_i64 (w (.int .i64 a3) (by simp))⟩
theorem open_cfg {H : Type} {enc : TypeId × Value → H} {W : World} {base : Nat} {spare : Nat → Bool} {held : Bool} {r : Reach} {b0 : Nat} {v : Value} {d : DataW H} {p : List MemPlace}
    (hv : Value.okWide Tryz.prog W r b0 24 v) (h : DataW.Trod enc Tryz.prog W base spare held 24 v d p) :
    ∃ sd : Nat, ∃ lo de ah : Int, v = .agg #[.int .u32 (sd : Int), .int .i64 lo, .int .i64 de, .int .i64 ah] ∧ sd < 4294967296 ∧ (-9223372036854775808 ≤ lo ∧ lo ≤ 9223372036854775807) ∧ (-9223372036854775808 ≤ de ∧ de ≤ 9223372036854775807) ∧ (-9223372036854775808 ≤ ah ∧ ah ≤ 9223372036854775807) := by
  obtain ⟨fuel, hf⟩ := h
  obtain ⟨hk, _⟩ := keyLits_of_trod 4 _ keyCf _ _ _ hf
  obtain ⟨sd, lo, de, ah, e, h0⟩ := cf_of_lits hk
  have hu := Tryz.underlying24
  simp only [Value.okWide, hu] at hv
  obtain ⟨cs, rfl, _, _⟩ := hv
  refine ⟨sd, lo, de, ah, ?_, h0⟩
  have e2 : cs.toList = [.int .u32 (sd : Int), .int .i64 lo, .int .i64 de, .int .i64 ah] := e
  exact congrArg Value.agg (Array.ext' e2)
set_option maxRecDepth 100000 in
theorem open_rops {H : Type} {enc : TypeId × Value → H} {W : World} {base : Nat} {spare : Nat → Bool} {held : Bool} {t : TypeId} {r : Reach} {b0 : Nat} {v : Value} {d : DataW H} {p : List MemPlace}
    (ht : Tryz.prog.underlying t = some (.slice 72)) (hv : Value.okWide Tryz.prog W r b0 t v) (h : DataW.Trod enc Tryz.prog W base spare held t v d p) :
    ∃ a cap, ∃ ops : List (Int × Nat × Int), v = .slice a ops.length cap ∧ ROps W a ops ∧ ops.length ≤ cap ∧ cap ≤ maxLen := by
  have hc3 : Tryz.prog.cellsOf 72 = 3 := by kernel_rfl
  obtain ⟨a0, len0, cap0, rfl⟩ := okWide_slice ht hv
  obtain ⟨fuel, hf⟩ := h
  rcases open_slice ht hf with ⟨hcs, _⟩ | ⟨a, len, cap, m, n, D, Pl, hcs, hb, hl, hm, hmm, _, hi⟩
  · simp [Value.cells] at hcs
    obtain ⟨rfl, rfl, rfl⟩ := hcs
    exact ⟨none, 0, [], rfl, ⟨fun x hx => by simp at hx, fun h => by simp at h⟩, by simp, by simp [maxLen]⟩
  · simp [Value.cells] at hcs
    obtain ⟨rfl, rfl, rfl⟩ := hcs
    have hlm : len0 ≤ m := by rw [hmm]; split <;> omega
    have each : ∀ i, i < len0 → ∃ o : Int × Nat × Int, (W.cell? (a.add (i * 3 + 0)) = some (.int .i64 o.1) ∧ W.cell? (a.add (i * 3 + 1)) = some (.int .u16 (o.2.1 : Int)) ∧ W.cell? (a.add (i * 3 + 2)) = some (.int .i64 o.2.2)) ∧
        (o.2.1 < 65536 ∧ (-9223372036854775808 ≤ o.1 ∧ o.1 ≤ 9223372036854775807) ∧ (-9223372036854775808 ≤ o.2.2 ∧ o.2.2 ≤ 9223372036854775807)) := by
      intro i hil
      obtain ⟨cs', hcc, ht'⟩ := hi i (by omega)
      rw [hc3] at hcc
      obtain ⟨hk, _⟩ := keyLits_of_trod 4 _ keyRo _ _ _ ht'
      obtain ⟨o, e, hw⟩ := ro_of_lits hk
      obtain ⟨_, hcl2, hat⟩ := World.cells?_some hcc
      have g : ∀ k, k < 3 → W.cell? (a.add (i * 3 + k)) = ([.int .i64 o.1, .int .u16 (o.2.1 : Int), .int .i64 o.2.2] : List Value)[k]? := fun k hk => by
        have g := hat k hk
        rw [← Go.Deep.add_add, g, e]
      exact ⟨o, ⟨g 0 (by omega), g 1 (by omega), g 2 (by omega)⟩, hw⟩
    obtain ⟨ops, hol, hops⟩ := I2.list_of len0 each
    subst hol
    refine ⟨some a, cap0, ops, rfl, ⟨fun x hx => ?_, fun hp => ?_⟩, hl, hm⟩
    · obtain ⟨i, hi⟩ := List.getElem?_of_mem hx
      exact (hops i x hi).2
    · obtain ⟨b, off, spot⟩ := a
      obtain ⟨x, hx⟩ : ∃ x, ops[0]? = some x := ⟨ops[0]'(by omega), by simp⟩
      have c0 := (hops 0 x hx).1.1
      have hspot : spot = none := by simpa [Addr.add] using World.cell?_spot c0
      subst hspot
      have hadd : ∀ j, (⟨b, off, none⟩ : Addr).add j = ⟨b, off + j, none⟩ := fun j => by unfold Addr.add; split <;> simp_all
      refine ⟨b, off, rfl, ?_, fun j y hy => ?_⟩
      · have := World.block_lt_of_cell? W _ c0
        rw [hadd] at this
        exact this
      · have := (hops j y hy).1
        simp only [hadd, ← Nat.add_assoc, Nat.add_zero] at this
        exact ⟨this.1, this.2.1, this.2.2⟩
end Go.Proofs.YtckkpgopddnkiaaGreat.Rl
namespace Go.Proofs.YtckkpgopddnkiaaGreat.Rl
open Go.RowKit Go.Sort Go.Shelf Go.Proofs.YtckkpgopddnkiaaGreat.Gm Go.Proofs.YtckkpgopddnkiaaGreat.RingE Go.Proofs.YtckkpgopddnkiaaGreat.Inputq
set_option linter.all false

theorem played_any (w : World) (sd : Nat) (lo de ah : Int) (hsd : sd < 4294967296) (a : Option Addr) (c : Nat) (ops : List (Int × Nat × Int)) (hops : ROps w a ops) (hlen : ops.length ≤ 9223372036854775807) :
    Calls Tryz.prog 6 #[.agg #[.int .u32 (sd : Int), .int .i64 lo, .int .i64 de, .int .i64 ah], .slice a ops.length c] w fun e w' => ∃ pv E, e = .returned (.tuple #[pv, .agg E, .bool true]) ∧ E.size = 12 ∧ E.all (·.oneCell') = true ∧ Below w.heap.size w w' := by
  cases h : rightB lo de ah with
  | false => exact (played_bad w sd lo de ah hsd _ h).mono fun e w' ⟨Z, he, h1, h2, h3⟩ => ⟨_, Z, he, h1, h2, h3⟩
  | true =>
    unfold rightB at h
    simp only [decide_eq_true_eq] at h
    obtain ⟨l, rfl⟩ : ∃ l : Nat, lo = l := ⟨lo.toNat, by omega⟩
    exact (played_in w ⟨sd, l, de, ah⟩ hsd (show l < 2 by omega) ⟨h.2.2.1, h.2.2.2.1⟩ ⟨h.2.2.2.2.1, h.2.2.2.2.2⟩ a c ops hops hlen).mono fun e w' ⟨s, x, y, he, hD⟩ => ⟨_, _, he, dE_size _ _ _, dE_one _ _ _, hD.lo⟩

set_option maxRecDepth 100000 in
set_option maxHeartbeats 8000000 in
theorem plays_law (w : World) (sd : Nat) (lo de ah : Int) (hsd : sd < 4294967296) (a : Option Addr) (c : Nat) (ops : List (Int × Nat × Int)) (hops : ROps w a ops) (hl : ops.length ≤ c) (hc : c ≤ maxLen) :
    Calls Tryz.prog 3 #[.agg #[.int .u32 (sd : Int), .int .i64 lo, .int .i64 de, .int .i64 ah], .slice a ops.length c] w fun e w' => e = .returned (.bool true) ∧ Below w.heap.size w w' := by
  have pA := Lib.hid (fun W => awake25 W)
  have hlen : ops.length ≤ 9223372036854775807 := by simp only [maxLen] at hc; omega
  have pP := Lib.hid (fun W (hb : Below w.heap.size w W) => played_any W sd lo de ah hsd a c ops (hops.below hb) hlen)
  obtain ⟨W1, hW1⟩ : ∃ W1, W1 = w.alloc (.cells #[.int .u32 (sd : Int), .int .i64 lo, .int .i64 de, .int .i64 ah] 24) := ⟨_, rfl⟩
  have hX : Blk W1 w.heap.size 24 #[.int .u32 (sd : Int), .int .i64 lo, .int .i64 de, .int .i64 ah] := by rw [hW1]; exact Blk.new _ _ _
  have hB : Below w.heap.size w W1 := by rw [hW1]; exact (Below.refl _ w).alloc (Nat.le_refl _) _
  obtain ⟨l, hl⟩ : ∃ l, ops.length = l := ⟨_, rfl⟩
  rw [hl] at pP ⊢
  clear hops hl hlen
  go_enter Tryz.func3, Tryz.ntmps3
  go_upto_region 1 with fail
  rw [← hW1]
  clear hW1
  go_wp2_with fail
  refine (pA.out _).mono ?_
  rintro e w1 ⟨rfl, b1⟩
  have hX1 := hX.below b1 hX.lt
  have k0 := hX1.cell 0
  have k1 := hX1.cell 1
  have k2 := hX1.cell 2
  have k3 := hX1.cell 3
  simp only [List.getElem?_toArray, List.getElem?_cons_zero, List.getElem?_cons_succ] at k0 k1 k2 k3
  have hb1 := hB.trans (b1.mono hB.size)
  have HB := Lib.hid hb1
  clear hX hX1 hB b1
  go_wp2_with fail
  refine (pP.out _ HB.out).mono ?_
  rintro e w2 ⟨pv, E, rfl, hes, heo, b2⟩
  have hei : (Tryz.prog.info? 35).map (·.size) = some E.size := by rw [hes]; exact infoE
  have hnew := Blk.new w2 35 zE
  have hzz : zE.size = E.size := by rw [hes]; rfl
  have hb2 := HB.out.trans (b2.mono HB.out.size)
  have HB2 := Lib.hid hb2
  clear hb1 b2 hb2 k0 k1 k2 k3
  go_wp2_with (first | (refine wpList_store_blk (by rfl) 35 _ _ (by rfl) w2.heap.size E (by rfl) (by rfl) _ _ hnew hei hzz heo ?_; intro W7 hd7 ht7) | fail)
  go_ret
  exact ⟨rfl, HB2.out.trans ((((Below.refl w2.heap.size w2).alloc (Nat.le_refl _) _).trans (ht7.below (by simp) (fun k hk => by omega))).mono HB2.out.size)⟩
end Go.Proofs.YtckkpgopddnkiaaGreat.Rl
