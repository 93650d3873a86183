/-
  Package saved: Differ: the last frame of both, and the first one at which the sums aren't the same.
-/
import Derived.Test.YtblnfkhaicjeaaaSavF
import Derived.Test.YtblnfkhaicjeaaaRoutU
import Derived.Test.YtblnfkhaicjeaaaRingEF
namespace Go.Proofs.Ytblnfkhaicjeaaa.Sav
open Go.RowKit Go.Sort Go.Shelf Go.Proofs.Ytblnfkhaicjeaaa.Gm Go.Proofs.Ytblnfkhaicjeaaa.RingE
set_option linter.all false
attribute [local go_sem] Oper.semAt_some

def dV (fa : Int) (j : Nat) : Int := fa + (j : Int)
def dP (fa fb : Int) (lb : List NT) (j : Nat) : Prop := atE fb lb.length (fa + (j : Int)) = 0
def dQ (fa fb : Int) (la lb : List NT) (j : Nat) : Prop := dP fa fb lb j ∧ (ntAt la j).2 ≠ (atX fb lb (fa + (j : Int))).2

theorem keepB_set {K : Nat → Prop} {b : Nat} (h : ¬ K b) (o : Nat) (W : World) (v : Value) : KeepB K W (W.setCell ⟨b, o, none⟩ v) := fun k hk => Below.heap_setCell W ⟨b, o, none⟩ v k (fun e => h ((show k = b from e) ▸ hk))
theorem range_snoc {pre : List Nat} {x : Nat} (h : pre ++ [x] = List.range (pre ++ [x]).length) : pre = List.range pre.length ∧ x = pre.length := by
  rw [List.length_append, List.length_singleton, List.range_succ] at h
  have h2 := List.append_inj' h rfl
  exact ⟨h2.1, by simpa using h2.2⟩

set_option maxRecDepth 100000 in
set_option maxHeartbeats 4000000 in
theorem sdiffer_any (w : World) (ga ra gb rb : Nat) (rma fa rmb fb : Int) (sa sb : Value) (la lb : List NT) (hA : SA w ga ra rma fa sa la) (hB : SA w gb rb rmb fb sb lb)
    (h0 : 0 ≤ fa) (h1 : fa + la.length ≤ 4611686018427387904) (k0 : 0 ≤ fb) (k1 : fb + lb.length ≤ 4611686018427387904) :
    Calls Try.prog 40 #[.pointer (some ⟨ga, 0, none⟩), .pointer (some ⟨gb, 0, none⟩)] w fun e w' => ∃ L1 L2, e = .returned (.tuple #[.int .i64 L1, .int .i64 L2]) ∧ IsLast (dP fa fb lb) (dV fa) 0 la.length L1 ∧ IsFirst (dQ fa fb la lb) (dV fa) 0 la.length L2 ∧ Below w.heap.size w w' := by
  refine calls_of_wp_marks 9 Try.func40 rfl ?_
  simp only [Try.ntmps40, List.size_toArray, List.length_cons, List.length_nil, Nat.reduceAdd, Nat.reduceSub, Array.replicate_succ, Array.replicate_zero, List.push_toArray, List.append_toArray, List.nil_append, List.cons_append]
  obtain ⟨V, hV⟩ : ∃ V : World, V = ((w.alloc (.cells #[.pointer (some ⟨gb, 0, none⟩)] 69)).alloc (.cells #[.int .i64 (-1)] 3)).alloc (.cells #[.int .i64 (-1)] 3) := ⟨_, rfl⟩
  have hzV : V.heap.size = w.heap.size + 3 := by rw [hV]; simp
  have hb1 : Below w.heap.size w V := by rw [hV]; exact (((Below.refl _ w).alloc (Nat.le_refl _) _).alloc (by simp) _).alloc (by simp; omega) _
  have hgb : Blk V w.heap.size 69 #[.pointer (some ⟨gb, 0, none⟩)] := by rw [hV]; exact ((Blk.new _ _ _).alloc _).alloc _
  have hL1 : Blk V (w.heap.size + 1) 3 #[.int .i64 (-1)] := by
    rw [hV]
    have := (Blk.new (w.alloc (.cells #[.pointer (some ⟨gb, 0, none⟩)] 69)) 3 #[.int .i64 (-1)]).alloc (.cells #[.int .i64 (-1)] 3)
    simpa only [World.size_alloc] using this
  have hL2 : Blk V (w.heap.size + 2) 3 #[.int .i64 (-1)] := by
    rw [hV]
    have := Blk.new ((w.alloc (.cells #[.pointer (some ⟨gb, 0, none⟩)] 69)).alloc (.cells #[.int .i64 (-1)] 3)) 3 #[.int .i64 (-1)]
    simpa only [World.size_alloc] using this
  have hA1 := hA.below hb1
  have hB1 := hB.below hb1
  have hfa : ∀ k, fp ra sa k → k < w.heap.size := hA.2.lt
  have hfb : ∀ k, fp rb sb k → k < w.heap.size := hB.2.lt
  have hgal : ga < w.heap.size := Blk.lt hA.1
  have hgbl : gb < w.heap.size := Blk.lt hB.1
  have c0 := hA1.c0
  have p := Lib.hid (back_any V ra)
  clear hA hB
  go_upto_region 2 with fail
  simp only [World.size_alloc, Nat.add_assoc, Nat.reduceAdd]
  rw [← hV]
  clear hV
  go_wp2_with (first | (refine p.out.mono ?_; rintro e w' ⟨rfl, rfl⟩) | fail)
  refine (wpIn_wide (n := 9)).1 ?_
  obtain ⟨V2, hV2⟩ : ∃ V2 : World, V2 = V.alloc (Obj.cells #[Value.pointer (some { block := ra, off := 0 })] 151) := ⟨_, rfl⟩
  rw [← hV2]
  have hz2 : V2.heap.size = w.heap.size + 4 := by rw [hV2]; simp [hzV]
  have hbk : Blk V2 (w.heap.size + 3) 151 #[Value.pointer (some { block := ra, off := 0 })] := by
    rw [hV2, ← hzV]; exact Blk.new _ _ _
  have hb2 : Below V.heap.size V V2 := by rw [hV2]; exact (Below.refl _ V).alloc (Nat.le_refl _) _
  have hA2 := hA1.below hb2
  have hB2 := hB1.below hb2
  have hgb2 := hgb.below hb2 (by omega)
  have hL12 := hL1.below hb2 (by omega)
  have hL22 := hL2.below hb2 (by omega)
  have hbw : Below w.heap.size w V2 := hb1.trans (hb2.mono (by omega))
  obtain ⟨Kin, hKin⟩ : ∃ Kin : Nat → Prop, Kin = fun k => k ≤ w.heap.size ∨ k = w.heap.size + 3 := ⟨_, rfl⟩
  have kin : ∀ k, Kin k → k < V2.heap.size := fun k hk => by rw [hKin] at hk; rcases hk with h | h <;> omega
  have kinK : ∀ k, k ≤ w.heap.size → Kin k := fun k hk => by rw [hKin]; exact .inl hk
  have kin1 : Kin (w.heap.size + 3) := by rw [hKin]; exact .inr rfl
  have kn1 : ¬ Kin (w.heap.size + 1) := by rw [hKin]; omega
  have kn2 : ¬ Kin (w.heap.size + 2) := by rw [hKin]; omega
  obtain ⟨n, hn⟩ : ∃ n, n = la.length := ⟨_, rfl⟩
  obtain ⟨Pl, hPl⟩ : ∃ Pl : Nat → Int → Prop, Pl = fun k L => IsLast (dP fa fb lb) (dV fa) (n - k) n L := ⟨_, rfl⟩
  obtain ⟨Pf, hPf⟩ : ∃ Pf : Nat → Int → Prop, Pf = fun k L => IsFirst (dQ fa fb la lb) (dV fa) (n - k) n L := ⟨_, rfl⟩
  clear hV2 hb1 hzV hgb hL1 hL2 hA1 hB1 c0 p hb2
  have hown1 : OwnFrom V2.heap.size (fun (pre : List Nat) W => (∃ L1 L2 : Int, W.cell? ⟨w.heap.size + 1, 0, none⟩ = some (.int .i64 L1) ∧ W.frozen? ⟨w.heap.size + 1, 0, none⟩ = false ∧ W.cell? ⟨w.heap.size + 2, 0, none⟩ = some (.int .i64 L2) ∧ W.frozen? ⟨w.heap.size + 2, 0, none⟩ = false ∧ (pre = List.range pre.length → pre.length ≤ n → Pl pre.length L1 ∧ Pf pre.length L2)) ∧ (V2.heap.size ≤ W.heap.size ∧ KeepB Kin V2 W) ∧ Below (w.heap.size + 1) V2 W) :=
    OwnFrom.and (Own.from (fun s A B row hs hg hr => by
      obtain ⟨L1, L2, e1, e2, e3, e4, e5⟩ := hs
      exact ⟨L1, L2, cell_kept e1 hg hr, (frozen_kept e1 hg hr).trans e2, cell_kept e3 hg hr, (frozen_kept e3 hg hr).trans e4, e5⟩) _) ((ownFrom_keepB kin (Nat.le_refl _)).and (ownFrom_below (by omega) (by omega)))
  have hbn := back_nat 8 (by omega) (w.heap.size + 3) ra Kin rma fa sa la V2 kin (hbk.cell 0) hA2.2 (fun k hk => kinK k (Nat.le_of_lt (hfa k hk))) kin1 h0 h1
  rw [← hn] at hbn
  refine' wpIn_rangeFunc_ownH (F := Fence.wide) (n := 9) rfl (by omega) (gf := 125) (lb := #[.pointer (some ⟨w.heap.size + 3, 0, none⟩)]) rfl trivial (enters_of Try.func125 (by kernel_rfl) rfl)
    hbn keepB_t (keepB_b (m := V2.heap.size) kin) (Below.refl _ _) (fun _ => rfl)
    _ (fun _ _ _ => False) hown1 (fun c s A B row hs hg hr => hs) ⟨⟨-1, -1, hL12.cell 0, hL12.frozen 0, hL22.cell 0, hL22.frozen 0, fun _ _ => ⟨by rw [hPl]; exact IsLast.none (by simp), by rw [hPf]; exact IsFirst.none (by simp)⟩⟩, ⟨Nat.le_refl _, keepB_refl _⟩, Below.refl _ _⟩
    (fun x a' V => ∃ b C, V2.heap.size ≤ b ∧ EL C (ntAt la (la.length - 1 - x)) ∧ Blk V b 149 C ∧ a' = { defers := [], tmps := #[Value.pointer (some { block := ga, off := 0 }), Value.pointer (some { block := gb, off := 0 }), undef,
          Value.pointer (some { block := w.heap.size, off := 0 }), Value.int IntKind.i64 0, Value.int IntKind.i64 0,
          Value.pointer (some { block := w.heap.size + 1, off := 0 }),
          Value.pointer (some { block := w.heap.size + 2, off := 0 }), .int .i64 (fa + ((la.length - 1 - x : Nat) : Int)), .pointer (some ⟨b, 0, none⟩), undef, undef,
          Value.pointer (some { block := ga, off := 0 }), Value.pointer (some { block := ga, off := 0 }),
          Value.pointer (some { block := ga, off := 0 }), Value.pointer (some { block := ra, off := 0 }),
          Value.func (Fn.func 125) #[] #[Value.pointer (some { block := w.heap.size + 3, off := 0 })], .int .i64 (fa + ((la.length - 1 - x : Nat) : Int)), .agg C,
          undef, undef, undef, undef, undef, undef, undef, undef, undef, undef, undef, undef, undef, undef, undef,
          undef, undef, undef, undef, undef, undef, undef] })
    (fun x a' s A B row hs hg hr => by
      obtain ⟨b, C, h1, h2, h3, h4⟩ := hs
      exact ⟨b, C, h1, h2, blk_own h3 hg (fun r e => (hr r e).2), h4⟩) ?assign ?body ?done ?stop
  case assign =>
    rintro lo2 pre x U Kk hU hKk
    have uz := hU.2.1.1
    dsimp only [encs, backF] at hKk ⊢
    obtain ⟨C, LC⟩ := el_of (ntAt la (la.length - 1 - x))
    rw [show (cs (ntAt la (la.length - 1 - x))).toArray = C from Array.ext' LC.eq.symm]
    obtain ⟨U3, hrun, hB3, hb3, hz3⟩ := alloc_storeE U LC
    have hes := LC.size
    have hz67' := hz67
    have HL := Lib.hid LC
    clear LC
    have hfin := hKk _ U3 (below_from hb3) (below_keepB hb3 (fun k hk => Nat.lt_of_lt_of_le (kin k hk) uz)) (hown1 pre U U3 none hU ⟨hb3.os, hb3.tape, hb3.output, hb3.size, fun k hk _ => hb3.block k hk⟩ (fun r e => by cases e)) ⟨_, C, uz, HL.out, hB3, rfl⟩
    gi_wp2
    exact hfin
  case stop =>
    rintro D c pre U hD _ hf
    exact hf.elim
  case body =>
    rintro lo2 pre x a' U hlo hrec ⟨⟨L1, L2, e1, e2, e3, e4, e5⟩, ⟨uz, uk⟩, uB⟩ ⟨b, C, hbz, LC, hb, rfl⟩ hlt
    obtain ⟨j, hj⟩ : ∃ j : Nat, j = la.length - 1 - x := ⟨_, rfl⟩
    rw [← hj] at LC ⊢
    have hjl : j < la.length := by omega
    have HJ := Lib.hid hj
    have HSN : Hid (pre ++ [x] = List.range (pre ++ [x]).length → (pre ++ [x]).length ≤ n → Pl (n - (j + 1)) L1 ∧ Pf (n - (j + 1)) L2 ∧ (pre ++ [x]).length = n - j) := Lib.hid (fun h hle => by
      obtain ⟨g1, g2⟩ := range_snoc h
      rw [List.length_append, List.length_singleton] at hle ⊢
      have g3 := e5 g1 (by omega)
      have g4 : pre.length = n - (j + 1) := by omega
      rw [← g4]
      exact ⟨g3.1, g3.2, by omega⟩)
    have q0 : U.cell? ⟨w.heap.size, 0, none⟩ = some (.pointer (some ⟨gb, 0, none⟩)) := cell_keep (hgb2.cell 0) uk (kinK _ (Nat.le_refl _))
    have q1 : U.cell? ⟨b, 66, none⟩ = some (.int .u32 (ntAt la j).2) := (hb.cell 66).trans (el_sum LC)
    have q2 : U.cell? ⟨gb, 0, none⟩ = some (.pointer (some ⟨rb, 0, none⟩)) := cell_keep hB2.c0 uk (kinK _ (Nat.le_of_lt hgbl))
    have hBU : At U rb rmb fb sb lb := hB2.2.keep uk (fun k hk => kinK k (Nat.le_of_lt (hfb k hk)))
    obtain ⟨xn, hxn⟩ : ∃ xn, xn = fa + (j : Int) := ⟨_, rfl⟩
    rw [← hxn]
    have pAt := Lib.hid (at_any U rb rmb fb xn sb lb hBU k0 (by omega))
    obtain ⟨ev, hev⟩ : ∃ ev, ev = atE fb lb.length xn := ⟨_, rfl⟩
    rw [← hev] at pAt
    obtain ⟨s1, hs1⟩ : ∃ s1, s1 = (ntAt la j).2 := ⟨_, rfl⟩
    rw [← hs1] at q1
    obtain ⟨s2, hs2⟩ : ∃ s2, (atX fb lb xn).2 = s2 := ⟨_, rfl⟩
    have HS2 := Lib.hid hs2
    clear hs2
    have HXN := Lib.hid hxn
    have HEV := Lib.hid hev
    have HS1 := Lib.hid hs1
    have hbl : b < U.heap.size := Blk.lt hb
    have HUK := Lib.hid uk
    have HUB := Lib.hid uB
    have l1 : w.heap.size + 1 < U.heap.size := by omega
    have l2 : w.heap.size + 2 < U.heap.size := by omega
    have hz67' := hz67
    have hkU : ∀ k, Kin k → k < U.heap.size := fun k hk => Nat.lt_of_lt_of_le (kin k hk) uz
    have HZ2 := Lib.hid hz2
    clear hBU hA2 hB2 uk uB hj e5 hev hs1 hxn LC hb hgb2 hL12 hL22 hbn hbk hz2
    have en1 : n - (n - (j + 1)) = j + 1 := by omega
    have en2 : n - (n - j) = j := by omega
    have hPl1 := Lib.hid (show ∀ L, Pl (n - (j + 1)) L → IsLast (dP fa fb lb) (dV fa) (j + 1) n L from fun L h => by rw [hPl] at h; change IsLast _ _ (n - (n - (j + 1))) n L at h; rw [en1] at h; exact h)
    have hPl2 := Lib.hid (show ∀ L, IsLast (dP fa fb lb) (dV fa) j n L → Pl (n - j) L from fun L h => by rw [hPl]; show IsLast _ _ (n - (n - j)) n L; rw [en2]; exact h)
    have hPf1 := Lib.hid (show ∀ L, Pf (n - (j + 1)) L → IsFirst (dQ fa fb la lb) (dV fa) (j + 1) n L from fun L h => by rw [hPf] at h; change IsFirst _ _ (n - (n - (j + 1))) n L at h; rw [en1] at h; exact h)
    have hPf2 := Lib.hid (show ∀ L, IsFirst (dQ fa fb la lb) (dV fa) j n L → Pf (n - j) L from fun L h => by rw [hPf]; show IsFirst _ _ (n - (n - j)) n L; rw [en2]; exact h)
    have hjn : j < n := by omega
    clear hPl hPf hown1 en1 en2
    by_cases c1 : ev = 0
    · have d1 : (ev != 0) = false := by simpa using c1
      have HP : Hid (dP fa fb lb j) := Lib.hid (by unfold dP; rw [← HXN.out, ← HEV.out]; exact c1)
      obtain ⟨m, hm⟩ : ∃ m, (if L1 < xn then xn else L1) = m := ⟨_, rfl⟩
      have HM := Lib.hid hm
      have HLa : Hid (∀ L, IsLast (dP fa fb lb) (dV fa) (j + 1) n L → L = L1 → IsLast (dP fa fb lb) (dV fa) j n m) := Lib.hid (fun L h e => by
        subst e
        have := h.down_yes (by intro i k hik; unfold dV; omega) (by intro i; unfold dV; omega) HP.out hjn
        rw [show dV fa j = xn by unfold dV; exact HXN.out.symm, hm] at this
        exact this)
      by_cases c2 : s1 = s2
      · have d2 : (s1 != s2) = false := by simpa using c2
        have HQ : Hid (¬ dQ fa fb la lb j) := Lib.hid (fun h => h.2 (by rw [← HS1.out, ← HXN.out, HS2.out]; exact c2))
        clear c2
        gi_wp2_with (first
          | (refine And.intro (show Fence.wide.fn _ from trivial) ?_)
          | (gi_at_call 88; refine (CallsIn.inRound lo2 ((callsIn_wide (n := _)).2 pAt.out)).mono ?_; rintro e w1 ⟨C2, LC2, rfl, hb1⟩; obtain ⟨U3, hrun, hB3, hb3, hz3⟩ := alloc_storeE w1 LC2; have hes := LC2.size; have HL2 := Lib.hid LC2; have hbu := hb1.trans (hb3.mono hb1.size); have r1 := ((bcell hbu).1 _ 0 l1).trans e1; have r2 := ((bcell hbu).2 _ 0 l1).trans e2; have r3 := ((bcell hbu).1 _ 0 l2).trans e3; have r4 := ((bcell hbu).2 _ 0 l2).trans e4; have r5 := ((bcell hbu).1 _ 66 hbl).trans q1; have r6 : U3.cell? ⟨w1.heap.size, 66, none⟩ = some (.int .u32 s2) := (hB3.cell 66).trans ((el_sum LC2).trans (by rw [HS2.out])); have HBU := Lib.hid hbu; clear hbu hb1 hb3 hB3 hz3 LC2)
          | fail)
        refine ⟨(below_from HBU.out).trans ((KeepsOthers.setCell _ _ _).from _), keepB_t (below_keepB HBU.out hkU) (keepB_set kn1 _ _ _), ⟨⟨m, L2, ?_, ?_, ?_, ?_, fun g hg => ?_⟩, ⟨Nat.le_trans uz (Nat.le_trans HBU.out.size (by simp)), keepB_t HUK.out (keepB_t (below_keepB HBU.out hkU) (keepB_set kn1 _ _ _))⟩, (HUB.out.trans (HBU.out.mono (Nat.le_of_lt l1))).setCell (p := ⟨w.heap.size + 1, 0, none⟩) (Nat.le_refl _) _⟩⟩
        · exact World.cell?_setCell_same' _ _ _ (by rw [r1]; rfl)
        · rw [World.frozen?_setCell]; exact r2
        · exact (World.cell?_setCell_other _ _ _ _ (by simp)).trans r3
        · rw [World.frozen?_setCell]; exact r4
        obtain ⟨g1, g2, g3⟩ := HSN.out g hg
        rw [g3]
        exact ⟨hPl2.out _ (HLa.out _ (hPl1.out _ g1) rfl), hPf2.out _ ((hPf1.out _ g2).down_no HQ.out)⟩
      · have d2 : (s1 != s2) = true := by simpa using c2
        have HQ : Hid (dQ fa fb la lb j) := Lib.hid ⟨HP.out, by rw [← HS1.out, ← HXN.out, HS2.out]; exact c2⟩
        clear c2
        gi_wp2_with (first
          | (refine And.intro (show Fence.wide.fn _ from trivial) ?_)
          | (gi_at_call 88; refine (CallsIn.inRound lo2 ((callsIn_wide (n := _)).2 pAt.out)).mono ?_; rintro e w1 ⟨C2, LC2, rfl, hb1⟩; obtain ⟨U3, hrun, hB3, hb3, hz3⟩ := alloc_storeE w1 LC2; have hes := LC2.size; have HL2 := Lib.hid LC2; have hbu := hb1.trans (hb3.mono hb1.size); have r1 := ((bcell hbu).1 _ 0 l1).trans e1; have r2 := ((bcell hbu).2 _ 0 l1).trans e2; have r3 := ((bcell hbu).1 _ 0 l2).trans e3; have r4 := ((bcell hbu).2 _ 0 l2).trans e4; have r5 := ((bcell hbu).1 _ 66 hbl).trans q1; have r6 : U3.cell? ⟨w1.heap.size, 66, none⟩ = some (.int .u32 s2) := (hB3.cell 66).trans ((el_sum LC2).trans (by rw [HS2.out])); have HBU := Lib.hid hbu; clear hbu hb1 hb3 hB3 hz3 LC2)
          | fail)
        refine ⟨((below_from HBU.out).trans ((KeepsOthers.setCell _ _ _).from _)).trans ((KeepsOthers.setCell _ _ _).from _), keepB_t (keepB_t (below_keepB HBU.out hkU) (keepB_set kn1 _ _ _)) (keepB_set kn2 _ _ _), ⟨⟨m, xn, ?_, ?_, ?_, ?_, fun g hg => ?_⟩, ⟨Nat.le_trans uz (Nat.le_trans HBU.out.size (by simp)), keepB_t HUK.out (keepB_t (keepB_t (below_keepB HBU.out hkU) (keepB_set kn1 _ _ _)) (keepB_set kn2 _ _ _))⟩, ((HUB.out.trans (HBU.out.mono (Nat.le_of_lt l1))).setCell (p := ⟨w.heap.size + 1, 0, none⟩) (Nat.le_refl _) _).setCell (p := ⟨w.heap.size + 2, 0, none⟩) (by show w.heap.size + 1 ≤ w.heap.size + 2; omega) _⟩⟩
        · exact (World.cell?_setCell_other _ _ _ _ (by simp)).trans (World.cell?_setCell_same' _ _ _ (by rw [r1]; rfl))
        · rw [World.frozen?_setCell, World.frozen?_setCell]; exact r2
        · exact World.cell?_setCell_same' _ _ _ (by rw [World.cell?_setCell_other _ _ _ _ (by simp), r3]; rfl)
        · rw [World.frozen?_setCell, World.frozen?_setCell]; exact r4
        obtain ⟨g1, g2, g3⟩ := HSN.out g hg
        rw [g3]
        refine ⟨hPl2.out _ (HLa.out _ (hPl1.out _ g1) rfl), hPf2.out _ ?_⟩
        rw [HXN.out]
        exact IsFirst.down_yes HQ.out hjn
    · have d1 : (ev != 0) = true := by simpa using c1
      have HP : Hid (¬ dP fa fb lb j) := Lib.hid (fun h => by unfold dP at h; rw [← HXN.out, ← HEV.out] at h; exact c1 h)
      gi_wp2_with (first
        | (refine And.intro (show Fence.wide.fn _ from trivial) ?_)
        | (gi_at_call 88; refine (CallsIn.inRound lo2 ((callsIn_wide (n := _)).2 pAt.out)).mono ?_; rintro e w1 ⟨C2, LC2, rfl, hb1⟩; obtain ⟨U3, hrun, hB3, hb3, hz3⟩ := alloc_storeE w1 LC2; have hes := LC2.size; have HL2 := Lib.hid LC2; have hbu := hb1.trans (hb3.mono hb1.size); have r1 := ((bcell hbu).1 _ 0 l1).trans e1; have r2 := ((bcell hbu).2 _ 0 l1).trans e2; have r3 := ((bcell hbu).1 _ 0 l2).trans e3; have r4 := ((bcell hbu).2 _ 0 l2).trans e4; have r5 := ((bcell hbu).1 _ 66 hbl).trans q1; have r6 : U3.cell? ⟨w1.heap.size, 66, none⟩ = some (.int .u32 s2) := (hB3.cell 66).trans ((el_sum LC2).trans (by rw [HS2.out])); have HBU := Lib.hid hbu; clear hbu hb1 hb3 hB3 hz3 LC2)
        | fail)
      refine ⟨below_from HBU.out, below_keepB HBU.out hkU, ⟨⟨L1, L2, r1, r2, r3, r4, fun g hg => ?_⟩, ⟨Nat.le_trans uz HBU.out.size, keepB_t HUK.out (below_keepB HBU.out hkU)⟩, HUB.out.trans (HBU.out.mono (Nat.le_of_lt l1))⟩⟩
      obtain ⟨g1, g2, g3⟩ := HSN.out g hg
      rw [g3]
      exact ⟨hPl2.out _ ((hPl1.out _ g1).down_no HP.out), hPf2.out _ ((hPf1.out _ g2).down_no (fun h => HP.out h.1))⟩
  case done =>
    rintro D ys U hD rfl ⟨⟨L1, L2, e1, e2, e3, e4, e5⟩, ⟨uz, uk⟩, uB⟩ hdef
    have hfin := e5 (by simp) (by simp)
    rw [List.length_range, hPl, hPf] at hfin
    dsimp only at hfin
    rw [Nat.sub_self, hn] at hfin
    have HFI := Lib.hid hfin
    go_wp2_with fail
    go_quiet (fail)
    go_wp2_with fail
    have hdef' : (U.drewN nq).heap[D]? = some (Obj.deferred (some [])) := hdef
    refine ⟨by simp, .inl ⟨_, _, rfl, run_takeDeferred hdef', ?_⟩⟩
    refine ⟨.tuple #[.int .i64 L1, .int .i64 L2], ?_, L1, L2, rfl, HFI.out.1, HFI.out.2, ?_⟩
    · simp [results, Try.f40, go_sem]
    · have hB6 : Below w.heap.size w (U.drewN nq) := below_drewN (hbw.trans (uB.mono (by omega))) nq
      exact hB6.trans (belowK_b (w := w) (Nat.le_refl _) _ D _ _ (by omega) hdef' rfl rfl)
end Go.Proofs.Ytblnfkhaicjeaaa.Sav
