/-
  Texts joined: DfO, OpenTp, OpenSt. No condition.
-/
import Derived.Test.YtlhoffhagfhbcaaBDiff21
import Derived.Lib.SmallJoins
import Derived.MapViews
namespace Go.Proofs.Ytlhoffhagfhbcaa.Dif
open Go.RowKit Go.Sort Go.Proofs.Ytlhoffhagfhbcaa.Byt Go.Proofs.Ytlhoffhagfhbcaa.Gm Go.Proofs.Ytlhoffhagfhbcaa.Num Go.Proofs.Ytlhoffhagfhbcaa.Spe
set_option linter.all false

set_option maxRecDepth 100000 in
set_option maxHeartbeats 8000000 in
theorem tells_law (w : World) (sd so : Nat) (hs : sd < 4294967296) (ho : so < 4294967296) (a b : Option Addr) (ca cb : Nat) (ls os : List (Nat × Nat)) (hra : InRow w a ls) (hrb : InRow w b os) (hla : ls.length ≤ ca) (hlb : os.length ≤ cb) (hca : ca ≤ 9223372036854775807) (hcb : cb ≤ 9223372036854775807) (hna : a = none → ca = 0) (hnb : b = none → cb = 0) :
    Calls Try.prog 4 #[.agg #[.int .u32 (sd : Int), .slice a ls.length ca], .agg #[.int .u32 (so : Int), .slice b os.length cb]] w fun e w' => e = .returned (.bool true) ∧ Below w.heap.size w w' := by
  obtain ⟨l, hll⟩ : ∃ l, ls.length = l := ⟨_, rfl⟩
  obtain ⟨m, hmm⟩ : ∃ m, os.length = m := ⟨_, rfl⟩
  obtain ⟨ta, hta⟩ : ∃ t, t = w.heap.size := ⟨_, rfl⟩
  obtain ⟨tb, htb⟩ : ∃ t, t = w.heap.size + 1 := ⟨_, rfl⟩
  obtain ⟨W1, hW1⟩ : ∃ W1, W1 = (w.alloc (.cells #[.int .u32 (sd : Int), .slice a l ca] 49)).alloc (.cells #[.int .u32 (so : Int), .slice b m cb] 49) := ⟨_, rfl⟩
  have hT : TwoT w W1 ta tb 49 sd a l ca so b m cb := by rw [hW1, hta, htb]; exact TwoT.new ..
  have HT := Lib.hid hT
  have HIA := Lib.hid (show ∀ V, Bw W1 V → InRow V a ls ∧ InRow V b os from fun V h => ⟨inRow_pre (inRow_pre hra hT.below) h, inRow_pre (inRow_pre hrb hT.below) h⟩)
  have pA := Lib.hid (awake36 W1)
  have HLL := Lib.hid hll
  have HMM := Lib.hid hmm
  rw [hll, hmm]
  clear hT hra hrb hll hmm
  go_enter Try.func4, Try.ntmps4
  go_upto_region 1 with fail
  rw [← hW1, ← htb, ← hta]
  clear hW1 hta htb
  go_wp2_with fail
  refine pA.out.mono ?_
  rintro e w2 ⟨rfl, b2⟩
  have HB2 := Lib.hid (show Bw W1 w2 from b2)
  have q0 := cell_regrown ((HT.out.x.below b2 HT.out.x.lt).cell 0)
  have q1 := cell_regrown ((HT.out.x.below b2 HT.out.x.lt).cell 1)
  have q2 := cell_regrown ((HT.out.y.below b2 HT.out.y.lt).cell 0)
  have q3 := cell_regrown ((HT.out.y.below b2 HT.out.y.lt).cell 1)
  clear b2 pA
  go_upto_region 3 with fail
  by_cases hsm : l ≤ 100 ∧ m ≤ 100
  · have cS := regrown w2 (v := .bool true) (fun W _ => by
      have := small_any W sd so a b l m ca cb
      rw [decide_eq_true hsm.1, decide_eq_true hsm.2] at this
      exact this)
    have cT := regrown w2 (v := .string (tellV sd ls so os)) (fun W h => by
      have := tell_any W sd so hs ho a b ca cb ls os (HIA.out W (Bw.go HB2.out h)).1 (HIA.out W (Bw.go HB2.out h)).2 (by rw [HLL.out]; omega) (by rw [HMM.out]; omega) hla hlb hca hcb hna hnb
      rw [HLL.out, HMM.out] at this
      exact this)
    have cR := regrown w2 (v := .string (tellV sd ls so os)) (fun W h => by
      have := rtell_any W sd so hs ho a b ca cb ls os (HIA.out W (Bw.go HB2.out h)).1 (HIA.out W (Bw.go HB2.out h)).2 (by rw [HLL.out]; omega) (by rw [HMM.out]; omega) hla hlb hca hcb hna hnb
      rw [HLL.out, HMM.out] at this
      exact this)
    have cX := regrown w2 (v := .agg #[.int .u32 (sd : Int), .slice a l ca]) (fun W _ => ref_any W sd a l ca)
    have cY := regrown w2 (v := .agg #[.int .u32 (so : Int), .slice b m cb]) (fun W _ => ref_any W so b m cb)
    generalize tellV sd ls so os = T at *
    refine wp_region_quiet_below (by kernel_rfl) (by kernel_rfl) ?_
    repeat (go_big_quiet_step (fail))
    go_big_quiet_step (exact cS _ _)
    repeat (go_big_quiet_step (fail))
    go_big_quiet_step (exact cT _ _)
    repeat (go_big_quiet_step (fail))
    go_big_quiet_step (exact cX _ _)
    repeat (go_big_quiet_step (fail))
    go_big_quiet_step (exact cY _ _)
    repeat (go_big_quiet_step (fail))
    go_big_quiet_step (exact cR _ _)
    repeat (go_big_quiet_step (fail))
    refine wpQuiet_nil ?_
    intro W6 hw'
    have HB6 := Lib.hid (show Bw W1 W6 by
      obtain ⟨⟨dq, oq⟩, rfl⟩ := hw'
      exact Bw.go HB2.out (below_regrown w2 dq oq))
    clear hw' q0 q1 q2 q3 cS cT cR cX cY
    go_wp2_with fail
    go_ret
    exact ⟨rfl, Below.trans HT.out.below (Below.mono HB6.out HT.out.below.size)⟩
  · have hsf : (decide (l ≤ 100) && decide (m ≤ 100)) = false := by
      rw [Bool.and_eq_false_iff, decide_eq_false_iff_not, decide_eq_false_iff_not]; omega
    have cS := regrown w2 (v := .bool false) (fun W _ => by
      have := small_any W sd so a b l m ca cb
      rw [hsf] at this
      exact this)
    clear hsf
    refine wp_region_quiet_below (by kernel_rfl) (by kernel_rfl) ?_
    repeat (go_big_quiet_step (fail))
    go_big_quiet_step (exact cS _ _)
    repeat (go_big_quiet_step (fail))
    refine wpQuiet_nil ?_
    intro W6 hw'
    have HB6 := Lib.hid (show Bw W1 W6 by
      obtain ⟨⟨dq, oq⟩, rfl⟩ := hw'
      exact Bw.go HB2.out (below_regrown w2 dq oq))
    clear hw' q0 q1 q2 q3 cS
    go_wp2_with fail
    go_ret
    exact ⟨rfl, Below.trans HT.out.below (Below.mono HB6.out HT.out.below.size)⟩

set_option maxRecDepth 100000 in
set_option maxHeartbeats 8000000 in
theorem finds_law (w : World) (sd so : Nat) (hs : sd < 4294967296) (ho : so < 4294967296) (a b : Option Addr) (ca cb : Nat) (ls os : List (Nat × Nat)) (fr : Int) (hra : InRow w a ls) (hrb : InRow w b os) (hla : ls.length ≤ ca) (hlb : os.length ≤ cb) (hca : ca ≤ 9223372036854775807) (hcb : cb ≤ 9223372036854775807) (hna : a = none → ca = 0) (hnb : b = none → cb = 0) (hf0 : -9223372036854775808 ≤ fr) (hf1 : fr ≤ 9223372036854775807) :
    Calls Try.prog 5 #[.agg #[.int .u32 (sd : Int), .slice a ls.length ca], .agg #[.int .u32 (so : Int), .slice b os.length cb], .int .i64 fr] w fun e w' => e = .returned (.bool true) ∧ Below w.heap.size w w' := by
  obtain ⟨l, hll⟩ : ∃ l, ls.length = l := ⟨_, rfl⟩
  obtain ⟨m, hmm⟩ : ∃ m, os.length = m := ⟨_, rfl⟩
  obtain ⟨ta, hta⟩ : ∃ t, t = w.heap.size := ⟨_, rfl⟩
  obtain ⟨tb, htb⟩ : ∃ t, t = w.heap.size + 1 := ⟨_, rfl⟩
  obtain ⟨W1, hW1⟩ : ∃ W1, W1 = (w.alloc (.cells #[.int .u32 (sd : Int), .slice a l ca] 49)).alloc (.cells #[.int .u32 (so : Int), .slice b m cb] 49) := ⟨_, rfl⟩
  have hT : TwoT w W1 ta tb 49 sd a l ca so b m cb := by rw [hW1, hta, htb]; exact TwoT.new ..
  have HT := Lib.hid hT
  have HIA := Lib.hid (show ∀ V, Bw W1 V → InRow V a ls ∧ InRow V b os from fun V h => ⟨inRow_pre (inRow_pre hra hT.below) h, inRow_pre (inRow_pre hrb hT.below) h⟩)
  have pA := Lib.hid (awake36 W1)
  have HLL := Lib.hid hll
  have HMM := Lib.hid hmm
  rw [hll, hmm]
  clear hT hra hrb hll hmm
  go_enter Try.func5, Try.ntmps5
  go_upto_region 1 with fail
  rw [← hW1, ← htb, ← hta]
  clear hW1 hta htb
  go_wp2_with fail
  refine pA.out.mono ?_
  rintro e w2 ⟨rfl, b2⟩
  have HB2 := Lib.hid (show Bw W1 w2 from b2)
  have q0 := cell_regrown ((HT.out.x.below b2 HT.out.x.lt).cell 0)
  have q1 := cell_regrown ((HT.out.x.below b2 HT.out.x.lt).cell 1)
  have q2 := cell_regrown ((HT.out.y.below b2 HT.out.y.lt).cell 0)
  have q3 := cell_regrown ((HT.out.y.below b2 HT.out.y.lt).cell 1)
  clear b2 pA
  obtain ⟨x0, x1, y0, y1⟩ : w2.cell? ⟨ta, 0, none⟩ = some (.int .u32 (sd : Int)) ∧ w2.cell? ⟨ta, 1, none⟩ = some (.slice a l ca) ∧ w2.cell? ⟨tb, 0, none⟩ = some (.int .u32 (so : Int)) ∧ w2.cell? ⟨tb, 1, none⟩ = some (.slice b m cb) := ⟨(HT.out.x.below HB2.out HT.out.x.lt).cell 0, (HT.out.x.below HB2.out HT.out.x.lt).cell 1, (HT.out.y.below HB2.out HT.out.y.lt).cell 0, (HT.out.y.below HB2.out HT.out.y.lt).cell 1⟩
  clear q0 q1 q2 q3
  by_cases hsm : l ≤ 100 ∧ m ≤ 100
  · have pS := Lib.hid (show Calls Try.prog 19 #[.agg #[.int .u32 (sd : Int), .slice a l ca], .agg #[.int .u32 (so : Int), .slice b m cb]] w2 fun e w' => e = .returned (.bool true) ∧ Bw w2 w' from by
      have := small_any w2 sd so a b l m ca cb
      rw [decide_eq_true hsm.1, decide_eq_true hsm.2] at this
      exact this)
    go_wp2_with fail
    refine pS.out.mono ?_
    rintro e w3 ⟨rfl, b3⟩
    have HB3 := Lib.hid (HB2.out.go b3)
    have q0 := cell_regrown ((HT.out.x.below HB3.out HT.out.x.lt).cell 0)
    have q1 := cell_regrown ((HT.out.x.below HB3.out HT.out.x.lt).cell 1)
    have q2 := cell_regrown ((HT.out.y.below HB3.out HT.out.y.lt).cell 0)
    have q3 := cell_regrown ((HT.out.y.below HB3.out HT.out.y.lt).cell 1)
    have hL : ls.length ≤ 20000 := by rw [HLL.out]; omega
    have hM : os.length ≤ 20000 := by rw [HMM.out]; omega
    have cF := regrown w3 (v := .int .i64 (firstV sd ls so os)) (fun W h => by
      have := first_any W sd so hs ho a b ca cb ls os (HIA.out W (HB3.out.go h)).1 (HIA.out W (HB3.out.go h)).2 hL hM
      rw [HLL.out, HMM.out] at this
      exact this)
    have cG := regrown w3 (v := .int .i64 (firstV sd ls so os)) (fun W h => by
      have := rfirst_any W sd so hs ho a b ca cb ls os (HIA.out W (HB3.out.go h)).1 (HIA.out W (HB3.out.go h)).2 hL hM hla hlb hca hcb hna hnb
      rw [HLL.out, HMM.out] at this
      exact this)
    have cI := regrown w3 (v := .int .i64 (inputsV ls os)) (fun W h => by
      have := inputs_any W sd so a b ca cb ls os (HIA.out W (HB3.out.go h)).1 (HIA.out W (HB3.out.go h)).2 hL hM
      rw [HLL.out, HMM.out] at this
      exact this)
    have cJ := regrown w3 (v := .int .i64 (inputsV ls os)) (fun W h => by
      have := rinputs_any W sd so a b ca cb ls os (HIA.out W (HB3.out.go h)).1 (HIA.out W (HB3.out.go h)).2 hL hM
      rw [HLL.out, HMM.out] at this
      exact this)
    have cM := regrown w3 (v := .int .i64 (meetV sd ls so os fr)) (fun W h => by
      have := meet_any W sd so hs ho a b ca cb ls os (HIA.out W (HB3.out.go h)).1 (HIA.out W (HB3.out.go h)).2 fr hL hM hla hlb hca hcb hna hnb hf0 hf1
      rw [HLL.out, HMM.out] at this
      exact this)
    have cN := regrown w3 (v := .int .i64 (meetV sd ls so os fr)) (fun W h => by
      have := rmeet_any W sd so hs ho a b ca cb ls os fr (HIA.out W (HB3.out.go h)).1 (HIA.out W (HB3.out.go h)).2 hL hM hla hlb hca hcb hna hnb hf0 hf1
      rw [HLL.out, HMM.out] at this
      exact this)
    have cX := regrown w3 (v := .agg #[.int .u32 (sd : Int), .slice a l ca]) (fun W _ => ref_any W sd a l ca)
    have cY := regrown w3 (v := .agg #[.int .u32 (so : Int), .slice b m cb]) (fun W _ => ref_any W so b m cb)
    generalize firstV sd ls so os = R1 at *
    generalize inputsV ls os = R2 at *
    generalize meetV sd ls so os fr = R3 at *
    clear b3 pS x0 x1 y0 y1
    go_upto_region 5 with fail
    refine wp_region_quiet_below (by kernel_rfl) (by kernel_rfl) ?_
    repeat (go_big_quiet_step (fail))
    go_big_quiet_step (exact cF _ _)
    repeat (go_big_quiet_step (fail))
    go_big_quiet_step (exact cX _ _)
    repeat (go_big_quiet_step (fail))
    go_big_quiet_step (exact cY _ _)
    repeat (go_big_quiet_step (fail))
    go_big_quiet_step (exact cG _ _)
    repeat (go_big_quiet_step (fail))
    go_big_quiet_step (exact cI _ _)
    repeat (go_big_quiet_step (fail))
    go_big_quiet_step (exact cX _ _)
    repeat (go_big_quiet_step (fail))
    go_big_quiet_step (exact cY _ _)
    repeat (go_big_quiet_step (fail))
    go_big_quiet_step (exact cJ _ _)
    repeat (go_big_quiet_step (fail))
    go_big_quiet_step (exact cM _ _)
    repeat (go_big_quiet_step (fail))
    go_big_quiet_step (exact cX _ _)
    repeat (go_big_quiet_step (fail))
    go_big_quiet_step (exact cY _ _)
    repeat (go_big_quiet_step (fail))
    go_big_quiet_step (exact cN _ _)
    repeat (go_big_quiet_step (fail))
    refine wpQuiet_nil ?_
    intro W6 hw'
    have HB6 := Lib.hid (show Bw W1 W6 by
      obtain ⟨⟨dq, oq⟩, rfl⟩ := hw'
      exact Bw.go HB3.out (below_regrown w3 dq oq))
    clear hw' q0 q1 q2 q3 cF cG cI cJ cM cN cX cY
    go_wp2_with fail
    go_ret
    exact ⟨rfl, Below.trans HT.out.below (Below.mono HB6.out HT.out.below.size)⟩
  · have hsf : (decide (l ≤ 100) && decide (m ≤ 100)) = false := by
      rw [Bool.and_eq_false_iff, decide_eq_false_iff_not, decide_eq_false_iff_not]; omega
    have pS := Lib.hid (show Calls Try.prog 19 #[.agg #[.int .u32 (sd : Int), .slice a l ca], .agg #[.int .u32 (so : Int), .slice b m cb]] w2 fun e w' => e = .returned (.bool false) ∧ Bw w2 w' from by
      have := small_any w2 sd so a b l m ca cb
      rw [hsf] at this
      exact this)
    clear hsf
    go_wp2_with fail
    refine pS.out.mono ?_
    rintro e w3 ⟨rfl, b3⟩
    have HB3 := Lib.hid (HB2.out.go b3)
    clear b3 pS
    go_wp2_with fail
    go_ret
    exact ⟨rfl, Below.trans HT.out.below (Below.mono HB3.out HT.out.below.size)⟩
end Go.Proofs.Ytlhoffhagfhbcaa.Dif
namespace Go.Proofs.Ytlhoffhagfhbcaa.I2
open Go.RowKit Go.ChangeShapes Go.WideShapes Go.ChangeAt Go.Deep Go.Joins Go.Proofs.Ytlhoffhagfhbcaa.Gm
set_option linter.all false

theorem bounds_u8 {n : Int} (h : (Lit.int .u8 n).wf = true) : 0 ≤ n ∧ n < 256 := by
  simp [Lit.wf, IntKind.min, IntKind.max, IntKind.bits, IntKind.signed] at h
  omega
theorem in2_of_trod {H : Type} {enc : TypeId × Value → H} {P : Program} {W : World} {base : Nat} {spare : Nat → Bool} {held : Bool} {t e e1 : TypeId} {fuel : Nat} {v : Value} {x : DataW H × List MemPlace}
    (ht : P.underlying t = some (.slice e)) (he : P.underlying e = some (.array 2 e1)) (he1 : P.underlying e1 = some (.int .u16)) (hc : P.cellsOf e = 2) (hc1 : P.cellsOf e1 = 1)
    (hf : DataW.trod enc P W base spare held fuel t [v] = some x) :
    ∃ a cap, ∃ ls : List (Nat × Nat), v = .slice a ls.length cap ∧ InRow W a ls ∧ ls.length ≤ cap ∧ cap ≤ maxLen ∧ (a = none → cap = 0) := by
  rcases open_slice ht hf with ⟨hcs, _⟩ | ⟨a, len0, cap0, m, n, D, Pl, hcs, hb, hl, hm, hmm, _, hi⟩
  · simp at hcs
    subst hcs
    exact ⟨none, 0, [], rfl, ⟨fun x hx => by simp at hx, fun h => by simp at h⟩, by simp, by simp [maxLen], fun _ => rfl⟩
  · simp at hcs
    subst hcs
    have hlm : len0 ≤ m := by rw [hmm]; split <;> omega
    have each : ∀ i, i < len0 → ∃ x : Nat × Nat, (W.cell? (a.add (i * 2 + 0)) = some (.int .u16 x.1) ∧ W.cell? (a.add (i * 2 + 1)) = some (.int .u16 x.2)) ∧ x.1 < 65536 ∧ x.2 < 65536 := by
      intro i hil
      obtain ⟨cs', hcc, ht'⟩ := hi i (by omega)
      rw [hc] at hcc
      obtain ⟨xs, m', _, _, hcl, hxl, hx⟩ := DataW.trod_array he ht'
      obtain ⟨_, hcl2, hat⟩ := World.cells?_some hcc
      have t0 := hx 0 (by omega)
      have t1 := hx 1 (by omega)
      rw [hc1] at t0 t1
      simp only [Nat.zero_mul, Nat.one_mul, List.drop_zero] at t0 t1
      have x0 : xs[0]? = some (xs[0]'(by omega)) := List.getElem?_eq_getElem (by omega)
      have x1 : xs[1]? = some (xs[1]'(by omega)) := List.getElem?_eq_getElem (by omega)
      obtain ⟨n0, e0, _, w0⟩ := DataW.trod_int he1 (t0.trans x0)
      obtain ⟨n1, e1, _, w1⟩ := DataW.trod_int he1 (t1.trans x1)
      have b0 := bounds_u16 w0
      have b1 := bounds_u16 w1
      have g0 := hat 0 (by omega)
      have g1 := hat 1 (by omega)
      have k0 : cs'[0]? = some (.int .u16 n0) := by
        have := congrArg (fun l => l[0]?) e0
        simpa [List.getElem?_take] using this
      have k1 : cs'[1]? = some (.int .u16 n1) := by
        have := congrArg (fun l => l[0]?) e1
        simpa [List.getElem?_take, List.getElem?_drop] using this
      obtain ⟨m0, rfl⟩ : ∃ m0 : Nat, n0 = m0 := ⟨n0.toNat, by omega⟩
      obtain ⟨m1, rfl⟩ : ∃ m1 : Nat, n1 = m1 := ⟨n1.toNat, by omega⟩
      refine ⟨(m0, m1), ⟨?_, ?_⟩, by omega, by omega⟩
      · rw [← Go.Deep.add_add, g0, k0]
      · rw [← Go.Deep.add_add, g1, k1]
    obtain ⟨ls, hol, hops⟩ := list_of len0 each
    subst hol
    refine ⟨some a, cap0, ls, rfl, ⟨fun x hx => ?_, fun hp => ?_⟩, hl, hm, fun h => by cases h⟩
    · obtain ⟨i, hi⟩ := List.getElem?_of_mem hx
      exact (hops i x hi).2
    · obtain ⟨b, off, spot⟩ := a
      obtain ⟨x, hx⟩ : ∃ x, ls[0]? = some x := ⟨ls[0]'(by omega), by simp⟩
      have c0 := (hops 0 x hx).1.1
      have hspot : spot = none := by simpa [Addr.add] using World.cell?_spot c0
      subst hspot
      have hadd : ∀ j, (⟨b, off, none⟩ : Addr).add j = ⟨b, off + j, none⟩ := fun j => by unfold Addr.add; split <;> simp_all
      refine ⟨b, off, rfl, ?_, fun j hj => ?_⟩
      · have := World.block_lt_of_cell? W _ c0
        rw [hadd] at this
        exact this
      · have hg : ls[j]? = some (ls[j]'hj) := List.getElem?_eq_getElem hj
        have := (hops j _ hg).1
        simp only [hadd, ← Nat.add_assoc, Nat.add_zero] at this
        rw [(inA_get hg).1, (inA_get hg).2]
        exact this
theorem open_tape {H : Type} {enc : TypeId × Value → H} {P : Program} {W : World} {base : Nat} {spare : Nat → Bool} {held : Bool} {t e e1 : TypeId} {f0 f1 : Field} {r : Reach} {b0 : Nat} {v : Value} {d : DataW H} {p : List MemPlace}
    (hs : P.underlying t = some (.struct #[f0, f1])) (hone : oneCellFields P #[f0, f1] = true) (hC : P.cellsOf t = 2)
    (h0 : P.underlying f0.type = some (.int .u32)) (h1 : P.underlying f1.type = some (.slice e)) (he : P.underlying e = some (.array 2 e1)) (he1 : P.underlying e1 = some (.int .u16)) (hc : P.cellsOf e = 2) (hc1 : P.cellsOf e1 = 1)
    (hv : Value.okWide P W r b0 t v) (h : DataW.Trod enc P W base spare held t v d p) :
    ∃ (sd : Nat) (a : Option Addr) (cap : Nat) (ls : List (Nat × Nat)), v = .agg #[.int .u32 (sd : Int), .slice a ls.length cap] ∧ sd < 4294967296 ∧ InRow W a ls ∧ ls.length ≤ cap ∧ cap ≤ maxLen := by
  obtain ⟨v0, v1, y0, y1, n, rfl, -, -, t0, t1⟩ := open_agg2 hs hone hC hv h
  obtain ⟨s0, e0, _, w0⟩ := DataW.trod_int h0 t0
  have bs := bounds_u32 w0
  obtain ⟨a, cap, ls, rfl, hr, hl, hm, hn⟩ := in2_of_trod h1 he he1 hc hc1 t1
  simp at e0
  subst e0
  obtain ⟨sd, rfl⟩ : ∃ sd : Nat, s0 = sd := ⟨s0.toNat, by omega⟩
  exact ⟨sd, a, cap, ls, rfl, by omega, hr, hl, hm⟩
theorem open_tape2 {H : Type} {enc : TypeId × Value → H} {P : Program} {W : World} {base : Nat} {spare : Nat → Bool} {held : Bool} {t e e1 : TypeId} {f0 f1 : Field} {r : Reach} {b0 : Nat} {v : Value} {d : DataW H} {p : List MemPlace}
    (hs : P.underlying t = some (.struct #[f0, f1])) (hone : oneCellFields P #[f0, f1] = true) (hC : P.cellsOf t = 2)
    (h0 : P.underlying f0.type = some (.int .u32)) (h1 : P.underlying f1.type = some (.slice e)) (he : P.underlying e = some (.array 2 e1)) (he1 : P.underlying e1 = some (.int .u16)) (hc : P.cellsOf e = 2) (hc1 : P.cellsOf e1 = 1)
    (hv : Value.okWide P W r b0 t v) (h : DataW.Trod enc P W base spare held t v d p) :
    ∃ (sd : Nat) (a : Option Addr) (cap : Nat) (ls : List (Nat × Nat)), v = .agg #[.int .u32 (sd : Int), .slice a ls.length cap] ∧ sd < 4294967296 ∧ InRow W a ls ∧ ls.length ≤ cap ∧ cap ≤ maxLen ∧ (a = none → cap = 0) := by
  obtain ⟨v0, v1, y0, y1, n, rfl, -, -, t0, t1⟩ := open_agg2 hs hone hC hv h
  obtain ⟨s0, e0, _, w0⟩ := DataW.trod_int h0 t0
  have bs := bounds_u32 w0
  obtain ⟨a, cap, ls, rfl, hr, hl, hm, hn⟩ := in2_of_trod h1 he he1 hc hc1 t1
  simp at e0
  subst e0
  obtain ⟨sd, rfl⟩ : ∃ sd : Nat, s0 = sd := ⟨s0.toNat, by omega⟩
  exact ⟨sd, a, cap, ls, rfl, by omega, hr, hl, hm, hn⟩
end Go.Proofs.Ytlhoffhagfhbcaa.I2
namespace Go.Proofs.Ytlhoffhagfhbcaa.Gm
open Go.RowKit Go.WideShapes Go.ChangeShapes Go.Proofs.Ytlhoffhagfhbcaa.Eql
set_option linter.all false

theorem alike_get : ∀ {a b : List Lit}, Alike a b → ∀ (j : Nat) (x y : Lit), a[j]? = some x → b[j]? = some y → x.sameKind y
  | [], [], _, j, x, y, h, _ => by simp at h
  | a :: r, b :: s, h, 0, x, y, hx, hy => by simp at hx hy; subst hx; subst hy; exact h.1
  | a :: r, b :: s, h, j + 1, x, y, hx, hy => alike_get h.2 j x y (by simpa using hx) (by simpa using hy)
  | [], _ :: _, h, _, _, _, _, _ => h.elim
  | _ :: _, [], h, _, _, _, _, _ => h.elim
def numL : Lit → Int
  | .int _ n => n
  | .bool b => if b then 1 else 0
  | _ => 0
theorem state_of_lits {cs : List Value} {l : List Lit} (hk : Try.prog.keyLits 6 31 cs = some l) : ∃ f, cs = (stA f).toList ∧ Wf f := by
  obtain ⟨lz, hz⟩ := Option.isSome_iff_exists.1 lits33
  have e := cells_of_lits 6 _ tiled33 _ _ _ hk
  have ez := cells_of_lits 6 _ tiled33 _ _ _ hz
  have hal := keyLits_alike hk hz
  have w := keyLits_wf hk
  have wz := keyLits_wf hz
  have hlen : lz.length = 66 := by
    have := congrArg List.length ez
    simpa [stA] using this.symm
  have hlen2 : l.length = 66 := by rw [hal.length, hlen]
  have each : ∀ j, j < 66 → ∃ a, l[j]? = some a ∧ cs[j]? = some (cv j (numL a)) ∧ (-9223372036854775808 ≤ numL a ∧ numL a ≤ 9223372036854775807) ∧ (j = 1 → 0 ≤ numL a ∧ numL a < 4294967296) := by
    intro j hj
    have ha : l[j]? = some (l[j]'(by omega)) := List.getElem?_eq_getElem (by omega)
    have hb : lz[j]? = some (lz[j]'(by omega)) := List.getElem?_eq_getElem (by omega)
    have hs := alike_get hal j _ _ ha hb
    have wa := w _ (List.mem_of_getElem? ha)
    have wb := wz _ (List.mem_of_getElem? hb)
    have hc : cs[j]? = some (l[j]'(by omega)).toCell := by rw [e, List.getElem?_map, ha]; rfl
    have hcz : some (cv j (zF j)) = some (lz[j]'(by omega)).toCell := by
      rw [← stA_get zF hj, ← Array.getElem?_toList, ez, List.getElem?_map, hb]; rfl
    simp only [Option.some.injEq] at hcz
    refine ⟨_, ha, ?_⟩
    rw [hc]
    generalize l[j]'_ = a at *
    generalize lz[j]'_ = b at *
    clear hb ha hal w wz e ez hlen hlen2
    by_cases e1 : j = 1
    · subst e1
      rw [cv_seed] at hcz
      cases b <;> simp [Lit.toCell] at hcz
      obtain ⟨rfl, -⟩ := hcz
      cases a <;> simp [Lit.sameKind] at hs
      subst hs
      have bd := I2.bounds_u32 wa
      exact ⟨rfl, by simp only [numL]; omega, fun _ => bd⟩
    · by_cases e2 : 16 ≤ j ∧ j < 64 ∧ (j - 16) % 6 = 0
      · have ec : cv j (zF j) = .bool (onB (zF j)) := by unfold cv; rw [if_neg e1, if_pos e2]
        rw [ec] at hcz
        cases b <;> simp [Lit.toCell] at hcz
        all_goals try exact (wb : False).elim
        cases a <;> simp [Lit.sameKind] at hs
        rename_i b0 b1
        refine ⟨?_, by cases b1 <;> simp [numL], fun h => absurd h e1⟩
        unfold cv
        rw [if_neg e1, if_pos e2]
        cases b1 <;> rfl
      · rw [cv_int _ e1 e2] at hcz
        cases b <;> simp [Lit.toCell] at hcz
        obtain ⟨rfl, -⟩ := hcz
        cases a <;> simp [Lit.sameKind] at hs
        subst hs
        have bd := bounds_i64 wa
        exact ⟨by rw [cv_int _ e1 e2]; rfl, bd, fun h => absurd h e1⟩
  refine ⟨fun j => match l[j]? with | some a => numL a | none => 0, ?_, ⟨fun j hj => ?_, ?_⟩⟩
  · apply List.ext_getElem?
    intro j
    by_cases hj : j < 66
    · obtain ⟨a, h1, h2, _⟩ := each j hj
      rw [h2, Array.getElem?_toList, stA_get _ hj]
      simp only [h1]
    · have hl : cs.length = 66 := by rw [e]; simp [hlen2]
      rw [List.getElem?_eq_none (by omega), List.getElem?_eq_none (by simp [stA]; omega)]
  · obtain ⟨a, h1, _, h3, _⟩ := each j hj
    simp only [h1]
    exact h3
  · obtain ⟨a, h1, _, _, h4⟩ := each 1 (by omega)
    simp only [h1]
    exact h4 rfl
theorem open_state {H : Type} {enc : TypeId × Value → H} {W : World} {base : Nat} {spare : Nat → Bool} {held : Bool} {r : Reach} {b0 : Nat} {v : Value} {d : DataW H} {p : List MemPlace}
    (hv : Value.okWide Try.prog W r b0 31 v) (h : DataW.Trod enc Try.prog W base spare held 31 v d p) : ∃ f, v = stV f ∧ Wf f := by
  obtain ⟨fuel, hf⟩ := h
  obtain ⟨hk, _⟩ := keyLits_of_trod 6 _ key33 _ _ _ hf
  obtain ⟨f, e, hw⟩ := state_of_lits hk
  have hu := Try.underlying31
  simp only [Value.okWide, hu] at hv
  obtain ⟨cs, rfl, _, _⟩ := hv
  refine ⟨f, ?_, hw⟩
  have e2 : cs.toList = (stA f).toList := e
  rw [stV, Array.ext' e2]
end Go.Proofs.Ytlhoffhagfhbcaa.Gm
