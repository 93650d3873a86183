/-
  backstayref24 by value: Save. Conditions: the states lie in memory, there are at most 4096, and there is room for one.
-/
import Derived.Test.YtblnfkhaicjeaaaSavF
namespace Go.Proofs.Ytblnfkhaicjeaaa.Sav
open Go.RowKit Go.Sort Go.Proofs.Ytblnfkhaicjeaaa.Gm Go.Proofs.Ytblnfkhaicjeaaa.RingE
set_option linter.all false

def stL (f : F) : List Value := (stA f).toList
theorem stL_len : ∀ f, (stL f).length = 66 := fun f => by simp [stL, stA]
theorem stL_one : ∀ f, ∀ u ∈ stL f, u.oneCell' = true := fun f u hu => (Array.all_eq_true_iff_forall_mem.1 (stA_one f)) u (by simpa [stL] using hu)
theorem infoS : (Try.prog.info? 33).map (fun i => (i.zero, i.size, i.bytes)) = some (some (.agg Try.zeroCells33), 66, 528) := by kernel_rfl
def bsS (P : Program) (v : Value) (w : World) : Result Next := (Sem.run P (Instr.buildSlice 51 1 #[(0, v)]) w).andThen fun u w' => .ok (.value u) w'
theorem exec_bsS (ev : Operand → Value) (dst : Option Tmp) (x : Operand) (ty : TypeId) (pos : String) (after : Array Edge) (guard : Option (Nat × Bool)) (w : World) :
    (execOp ev { dst := dst, op := Op.buildSlice 51 1 #[(0, x)], type := ty, pos := pos, after := after, guard := guard }).run Try.prog w = bsS Try.prog (ev x) w := by
  unfold execOp bsS
  simp only [Sem.run_bind, Sem.run_pure, List.map_toArray, List.map_cons, List.map_nil]
theorem bsS_at (w : World) (E : Array Value) (h : E.size = 66) : bsS Try.prog (.agg E) w = .ok (.value (.slice (some ⟨w.heap.size, 0, none⟩) 1 1)) (w.alloc (.cells E 33)) := by
  obtain ⟨i0, hi0, hz0, hz1, hz2⟩ := info_parts infoS
  have hf := Great.fill_whole (s := 66) (by omega) [Value.agg E] ((Array.range (1 * i0.size)).map ((Value.agg Try.zeroCells33).cells[· % (Value.agg Try.zeroCells33).cells.size]!)) (fun v hv => by obtain rfl := List.mem_singleton.1 hv; exact h) (by simp [hz1])
  unfold bsS
  rw [run_buildSlice w 51 33 1 #[(0, .agg E)] E i0 _ Try.underlying51 hi0 hz0 (by rw [hz1]; omega) (by rw [hz1]; omega) (by
    rw [hz1] at hf ⊢
    refine hf.trans ?_
    simp [Value.cells])]
  rfl
attribute [local go_sem ↓] exec_bsS
attribute [local go_sem] bsS_at

/-- States in memory from a slice at a block's head. -/
theorem row_of_on {w : World} {a : Option Addr} {c : Nat} {fs : List F} (hw : ∀ f ∈ fs, Wf f) (h : On w 33 66 (.slice a fs.length c) fs.length (flat stL fs)) : StRow w a fs := by
  refine ⟨hw, fun hp => ?_⟩
  rcases h.form with ⟨hv, h0, _⟩ | ⟨g, cap, hv, _, _, _, hlt, hc, _⟩
  · omega
  · cases hv
    refine ⟨g, 0, rfl, hlt, fun j f hj i v hi => ?_⟩
    have hil : i < 66 := by
      have := (List.getElem?_eq_some_iff.1 hi).1
      have h2 := stL_len f
      unfold stL at h2
      omega
    have := hc (j * 66 + i) v (by rw [flat_get stL_len fs hj hil]; exact hi)
    rw [show 0 + j * 66 + i = j * 66 + i by omega]
    exact this
theorem flat_at {fs : List F} {m : Nat} {u : Value} (h : (flat stL fs)[m]? = some u) : ∃ f, fs[m / 66]? = some f ∧ (stL f)[m % 66]? = some u := by
  have hl := (List.getElem?_eq_some_iff.1 h).1
  rw [flat_len stL_len] at hl
  have hd : m / 66 < fs.length := by omega
  refine ⟨fs[m / 66], List.getElem?_eq_getElem hd, ?_⟩
  rw [← flat_get stL_len fs (List.getElem?_eq_getElem hd) (Nat.mod_lt m (by omega)), show m / 66 * 66 + m % 66 = m by omega]
  exact h
theorem row_src {w : World} {a : Option Addr} {fs : List F} (h : StRow w a fs) : Src w a fs.length (flat stL fs) := by
  by_cases hp : 0 < fs.length
  · obtain ⟨b, off, rfl, hlt, hc⟩ := h.2 hp
    refine .inr ⟨_, rfl, fun m u hu => ?_⟩
    obtain ⟨f, hf, hv⟩ := flat_at hu
    have hadd : (⟨b, off, none⟩ : Addr).add m = ⟨b, off + m, none⟩ := by unfold Addr.add; split <;> simp_all
    rw [hadd]
    have := hc _ f hf _ u hv
    rw [show off + m / 66 * 66 + m % 66 = off + m by omega] at this
    exact this
  · have : fs = [] := List.eq_nil_of_length_eq_zero (by omega)
    subst this
    exact .inl ⟨rfl, rfl⟩
theorem row_take {w : World} {a : Option Addr} {fs : List F} (h : StRow w a fs) (k : Nat) : StRow w a (fs.take k) :=
  ⟨fun f hf => h.1 f (List.mem_of_mem_take hf), fun hp => by
    obtain ⟨b, off, e, hlt, hc⟩ := h.2 (by rw [List.length_take] at hp; omega)
    refine ⟨b, off, e, hlt, fun j f hj => hc j f ?_⟩
    rw [List.getElem?_take] at hj
    split at hj <;> simp_all⟩

def rsP (first : Int) (len : Nat) (fr : Int) : Prop := len = 0 ∧ first = 0 ∧ 0 ≤ fr ∧ fr ≤ 1073741824
instance (first : Int) (len : Nat) (fr : Int) : Decidable (rsP first len fr) := by unfold rsP; infer_instance
def rsB (first : Int) (len : Nat) (fr : Int) : Int := if rsP first len fr then fr else first
def rsE (first : Int) (len : Nat) (fr : Int) : Int := if rsB first len fr + len < fr then 210 else if fr < rsB first len fr then 90 else 0
def rsL (room first : Int) (fs : List F) (f : F) : List F := if rsE first fs.length (f 0) = 0 then refL room (rsB first fs.length (f 0)) fs f else fs
def rsF (room first : Int) (fs : List F) (f : F) : Int := if rsE first fs.length (f 0) = 0 then (if room < ((fs.take (f 0 - rsB first fs.length (f 0)).toNat ++ [f]).length : Int) then rsB first fs.length (f 0) + 1 else rsB first fs.length (f 0)) else rsB first fs.length (f 0)

/-- A slice's block is another's, or new. -/
def FromOr (n : Nat) (a : Option Addr) (fs : List F) (a' : Option Addr) (fs' : List F) : Prop := ∀ b, a'.map (·.block) = some b → (a.map (·.block) = some b ∧ fs' = fs) ∨ n ≤ b
theorem pair_results3 {fn : Func} (hfn : fn.results = #[.cell 4 71, .tmp 5]) (tmps : Array Value) (W : World) (g : Nat) (t : TypeId) (C : Array Value) (v : Value) (h : Blk W g t C) (hC : (Try.prog.info? 71).map (·.size) = some C.size)
    (h4 : tmps.getD 4 undef = .pointer (some ⟨g, 0, none⟩)) (h5 : tmps.getD 5 undef = v) : (results fn tmps).run Try.prog W = .ok (.tuple #[.agg C, v]) W := by
  have e4 : tmps[4]?.getD undef = .pointer (some ⟨g, 0, none⟩) := by simpa using h4
  have e5 : tmps[5]?.getD undef = v := by simpa using h5
  have hl := run_loadVar_row (P := Try.prog) W g t 71 C (0, 0) _ h Try.underlying71 rfl hC
  simp [results, hfn, e4, e5, asAddr, hl]

set_option maxRecDepth 100000 in
set_option maxHeartbeats 8000000 in
theorem rfsave_any (w : World) (room first : Int) (a : Option Addr) (fs : List F) (cap : Nat) (C : Array Value) (f : F) (LC : Let C f) (hw : Wf f) (h : StRow w a fs) (hc : fs.length ≤ cap) (hm : cap ≤ maxLen) (h0 : 0 ≤ first) (h1 : first + fs.length ≤ 4611686018427387904) (hl : fs.length ≤ 4096) (hroom : 0 < room) :
    Calls Try.prog 86 #[refV room first a fs.length cap, .agg C] w fun e w' => ∃ a' cap', e = .returned (.tuple #[refV room (rsF room first fs f) a' (rsL room first fs f).length cap', .int .i64 (rsE first fs.length (f 0))]) ∧ StRow w' a' (rsL room first fs f) ∧ (rsL room first fs f).length ≤ cap' ∧ cap' ≤ maxLen ∧ FromOr w.heap.size a fs a' (rsL room first fs f) ∧ Below w.heap.size w w' := by
  unfold refV
  obtain ⟨W0, hW0⟩ : ∃ W0, W0 = ((w.alloc (.cells #[.int .i64 room, .int .i64 first, .slice a fs.length cap] 71)).alloc (.cells C 33)).alloc (.cells #[.int .i64 0, .int .i64 0, .slice none 0 0] 71) := ⟨_, rfl⟩
  have hX : Blk W0 w.heap.size 71 #[.int .i64 room, .int .i64 first, .slice a fs.length cap] := by rw [hW0]; exact ((Blk.new _ _ _).alloc _).alloc _
  have hS : Blk W0 (w.heap.size + 1) 33 C := by
    rw [hW0]
    have := (Blk.new (w.alloc (.cells #[.int .i64 room, .int .i64 first, .slice a fs.length cap] 71)) 33 C).alloc (.cells #[.int .i64 0, .int .i64 0, .slice none 0 0] 71)
    simpa only [World.size_alloc] using this
  have hY : Blk W0 (w.heap.size + 2) 71 #[.int .i64 0, .int .i64 0, .slice none 0 0] := by
    rw [hW0]
    have := Blk.new ((w.alloc (.cells #[.int .i64 room, .int .i64 first, .slice a fs.length cap] 71)).alloc (.cells C 33)) 71 #[.int .i64 0, .int .i64 0, .slice none 0 0]
    simpa only [World.size_alloc] using this
  have hB0 : Below w.heap.size w W0 := by rw [hW0]; exact (((Below.refl _ w).alloc (Nat.le_refl _) _).alloc (by simp) _).alloc (by simp; omega) _
  have hz : W0.heap.size = w.heap.size + 3 := by rw [hW0]; simp
  obtain ⟨fr, hfr⟩ : ∃ fr, f 0 = fr := ⟨_, rfl⟩
  have hcell : ∀ W, Blk W (w.heap.size + 1) 33 C → W.cell? ⟨w.heap.size + 1, 0, none⟩ = some (.int .i64 fr) := fun W hX => by
    have h2 := (LC.sb hX).int (j := 0) (by omega) (by omega) (by omega)
    rw [hfr] at h2
    exact h2
  have hfb : -9223372036854775808 ≤ fr ∧ fr ≤ 9223372036854775807 := by rw [← hfr]; exact hw.i64 0 (by omega)
  have HR := Lib.hid h
  have HX := Lib.hid hX
  have HY := Lib.hid hY
  have HS := Lib.hid hS
  have HB := Lib.hid hB0
  have HC := Lib.hid hcell
  have HZ := Lib.hid hz
  have x1 : W0.cell? ⟨w.heap.size, 1, none⟩ = some (.int .i64 first) := hX.cell 1
  have x2 : W0.cell? ⟨w.heap.size, 2, none⟩ = some (.slice a fs.length cap) := hX.cell 2
  have s0 := hcell W0 hS
  have HE := Lib.hid (show rsE first fs.length (f 0) = if rsB first fs.length fr + fs.length < fr then 210 else if fr < rsB first fs.length fr then 90 else 0 by unfold rsE; rw [hfr])
  have HLn := Lib.hid (show rsL room first fs f = if rsE first fs.length (f 0) = 0 then refL room (rsB first fs.length fr) fs f else fs by unfold rsL; rw [hfr])
  have HFn := Lib.hid (show rsF room first fs f = if rsE first fs.length (f 0) = 0 then (if room < ((fs.take (fr - rsB first fs.length fr).toNat ++ [f]).length : Int) then rsB first fs.length fr + 1 else rsB first fs.length fr) else rsB first fs.length fr by unfold rsF; rw [hfr])
  have HFR := Lib.hid hfr
  clear hX hS hY hB0 hz hcell h hfr
  go_enter Try.func86, Try.ntmps86
  go_upto_region 1 with fail
  simp only [World.size_alloc, Nat.add_assoc, Nat.reduceAdd]
  rw [← hW0]
  clear hW0
  go_cut [25] (fun v wx => v = .bool (decide (rsP first fs.length fr)) ∧ W0 = wx)
  case first =>
    by_cases p1 : fs.length = 0
    · have p1' : ((fs.length : Int) == 0) = true := by simp [p1]
      by_cases p2 : first = 0
      · have p2' : (first == 0) = true := by simp [p2]
        by_cases p3 : 0 ≤ fr
        · by_cases p4 : fr ≤ 1073741824
          · have E := Lib.hid (show decide (rsP first fs.length fr) = true by simp [rsP, p1, p2, p3, p4])
            have P1 := Lib.hid p1
            have P2 := Lib.hid p2
            clear p1 p2
            go_wp2_with fail
            go_meet
            exact ⟨by first | (rw [E.out]; done) | (rw [E.out]; rfl) | (rw [E.out]; simp; omega), rfl⟩
          · have E := Lib.hid (show decide (rsP first fs.length fr) = false by simp [rsP, p1, p2, p3, p4])
            have P1 := Lib.hid p1
            have P2 := Lib.hid p2
            clear p1 p2
            go_wp2_with fail
            go_meet
            exact ⟨by first | (rw [E.out]; done) | (rw [E.out]; rfl) | (rw [E.out]; simp; omega), rfl⟩
        · have E := Lib.hid (show decide (rsP first fs.length fr) = false by simp [rsP, p1, p2, p3])
          have P1 := Lib.hid p1
          have P2 := Lib.hid p2
          clear p1 p2
          go_wp2_with fail
          go_meet
          exact ⟨by first | (rw [E.out]; done) | (rw [E.out]; rfl) | (rw [E.out]; simp; omega), rfl⟩
      · have p2' : (first == 0) = false := by simp [p2]
        have E := Lib.hid (show decide (rsP first fs.length fr) = false by simp [rsP, p1, p2])
        have P1 := Lib.hid p1
        have P2 := Lib.hid p2
        clear p1 p2
        go_wp2_with fail
        go_meet
        exact ⟨by first | (rw [E.out]; done) | (rw [E.out]; rfl) | (rw [E.out]; simp; omega), rfl⟩
    · have p1' : ((fs.length : Int) == 0) = false := by simp; intro h; exact p1 (by rw [h]; rfl)
      have E := Lib.hid (show decide (rsP first fs.length fr) = false by simp [rsP, p1])
      have P1 := Lib.hid p1
      clear p1
      go_wp2_with fail
      go_meet
      exact ⟨by first | (rw [E.out]; done) | (rw [E.out]; rfl) | (rw [E.out]; simp; omega), rfl⟩
  case rest =>
    obtain ⟨rfl, rfl⟩ := hcut
    have HFB := Lib.hid (show rsB first fs.length fr = if rsP first fs.length fr then fr else first from rfl)
    have kx := HX.out.frozen 1
    go_upto_if 25 with fail
    go_cut [] (fun W => Blk W w.heap.size 71 #[.int .i64 room, .int .i64 (rsB first fs.length fr), .slice a fs.length cap] ∧ Touch (fun k => k = w.heap.size) W0 W)
    case first =>
      by_cases hp : rsP first fs.length fr
      · have hp' : decide (rsP first fs.length fr) = true := by simpa using hp
        have hb : rsB first fs.length fr = fr := by rw [HFB.out, if_pos hp]
        have HBB := Lib.hid hb
        rw [hp']
        clear hp hp' hb
        go_wp2_with fail
        go_meet
        rw [HBB.out]
        exact ⟨HX.out.set_ 1 _, (Touch.refl (fun k => k = w.heap.size) W0).setCell (.inl rfl) _⟩
      · have hp' : decide (rsP first fs.length fr) = false := by simpa using hp
        have hb : rsB first fs.length fr = first := by rw [HFB.out, if_neg hp]
        have HBB := Lib.hid hb
        rw [hp']
        clear hp hp' hb
        go_wp2_with fail
        go_meet
        rw [HBB.out]
        exact ⟨HX.out, Touch.refl _ _⟩
    case rest =>
      obtain ⟨hX1, hT⟩ := hcut
      obtain ⟨B, hB⟩ : ∃ B, B = rsB first fs.length fr := ⟨_, rfl⟩
      have hbb : 0 ≤ B ∧ B + (fs.length : Int) ≤ 4611686018427387904 := by
        rw [hB, HFB.out]
        by_cases hp : rsP first fs.length fr
        · rw [if_pos hp]
          obtain ⟨p1, p2, p3, p4⟩ := hp
          exact ⟨p3, by omega⟩
        · rw [if_neg hp]
          exact ⟨h0, h1⟩
      rw [← hB] at hX1
      have hBE := Lib.hid (show rsE first fs.length (f 0) = if B + fs.length < fr then 210 else if fr < B then 90 else 0 by rw [HE.out, hB])
      have hBL := Lib.hid (show rsL room first fs f = if rsE first fs.length (f 0) = 0 then refL room B fs f else fs by rw [HLn.out, hB])
      have hBF := Lib.hid (show rsF room first fs f = if rsE first fs.length (f 0) = 0 then (if room < ((fs.take (fr - B).toNat ++ [f]).length : Int) then B + 1 else B) else B by rw [HFn.out, hB])
      obtain ⟨b0, b1⟩ := hbb
      have hY1 := HY.out.touch hT (by omega)
      have hS1 := HS.out.touch hT (by omega)
      have hB1 : Below w.heap.size w wc := HB.out.trans (hT.below (by rw [HZ.out]; omega) (fun k hk => by omega))
      have hz1 := hT.size
      rw [HZ.out] at hz1
      have q0 := cell_regrown (hX1.cell 0)
      have q1 := cell_regrown (hX1.cell 1)
      have q2 := cell_regrown (hX1.cell 2)
      have q3 := cell_regrown (HC.out wc hS1)
      have cM := regrown wc (fun W _ => rnext_any W room B a fs.length cap b0 b1)
      unfold refV at cM
      clear x1 x2 s0 kx HE HLn HFn hB HX HY HS HB HFB hT
      go_upto_region 3 with fail
      refine wp_region_quiet_below (by kernel_rfl) (by kernel_rfl) ?_
      repeat (quiet_step (first | exact cM _ _))
      refine wpQuiet_nil ?_
      intro W2 hw'
      obtain ⟨⟨dq, osq⟩, hw''⟩ := hw'
      have hb2 : Below wc.heap.size wc W2 := by rw [hw'']; exact below_regrown _ _ _
      have HX2 := Lib.hid (hX1.below hb2 (by omega))
      have HY2 := Lib.hid (hY1.below hb2 (by omega))
      have HS2 := Lib.hid (hS1.below hb2 (by omega))
      have HB2 := Lib.hid (hB1.trans (hb2.mono (by omega)))
      have hz2 := Lib.hid (show w.heap.size + 3 ≤ W2.heap.size from Nat.le_trans hz1 hb2.size)
      have HR2 := Lib.hid (HR.out.below HB2.out)
      clear hw'' cM q0 q1 q2 q3 hX1 hY1 hS1 hb2 hB1 hz1
      have x0 : W2.cell? ⟨w.heap.size, 0, none⟩ = some (.int .i64 room) := HX2.out.cell 0
      have x1 : W2.cell? ⟨w.heap.size, 1, none⟩ = some (.int .i64 B) := HX2.out.cell 1
      have x2 : W2.cell? ⟨w.heap.size, 2, none⟩ = some (.slice a fs.length cap) := HX2.out.cell 2
      have s0 := HC.out W2 HS2.out
      have y0 := HY2.out.cell 0
      have y1 := HY2.out.cell 1
      have y2 := HY2.out.cell 2
      have z0 := HY2.out.frozen 0
      have z1 := HY2.out.frozen 1
      have z2 := HY2.out.frozen 2
      have HB3 := Lib.hid (fun (u v t : Value) => ((HB2.out.setCell (p := ⟨w.heap.size + 2, 0, none⟩) (by show w.heap.size ≤ w.heap.size + 2; omega) u).setCell (p := ⟨w.heap.size + 2, 1, none⟩) (by show w.heap.size ≤ w.heap.size + 2; omega) v).setCell (p := ⟨w.heap.size + 2, 2, none⟩) (by show w.heap.size ≤ w.heap.size + 2; omega) t)
      by_cases c1 : B + (fs.length : Int) < fr
      · have e1 := Lib.hid (show rsE first fs.length (f 0) = 210 by rw [hBE.out, if_pos c1])
        have e2 := Lib.hid (show rsL room first fs f = fs by rw [hBL.out, if_neg (by rw [e1.out]; decide)])
        have e3 := Lib.hid (show rsF room first fs f = B by rw [hBF.out, if_neg (by rw [e1.out]; decide)])
        go_wp2_with fail
        refine bodyPost_ret (pair_results3 rfl _ _ (w.heap.size + 2) _ _ _ (((HY2.out.set_ 0 _).set_ 1 _).set_ 2 _) (by rfl) (by rfl) (by rfl)) rfl ⟨a, cap, by rw [e1.out, e2.out, e3.out]; rfl, ?_, by rw [e2.out]; exact hc, hm, fun b h => .inl ⟨h, e2.out⟩, HB3.out _ _ _⟩
        rw [e2.out]
        exact HR.out.below (HB3.out _ _ _)
      · by_cases c2 : fr < B
        · have e1 := Lib.hid (show rsE first fs.length (f 0) = 90 by rw [hBE.out, if_neg c1, if_pos c2])
          have e2 := Lib.hid (show rsL room first fs f = fs by rw [hBL.out, if_neg (by rw [e1.out]; decide)])
          have e3 := Lib.hid (show rsF room first fs f = B by rw [hBF.out, if_neg (by rw [e1.out]; decide)])
          go_wp2_with fail
          refine bodyPost_ret (pair_results3 rfl _ _ (w.heap.size + 2) _ _ _ (((HY2.out.set_ 0 _).set_ 1 _).set_ 2 _) (by rfl) (by rfl) (by rfl)) rfl ⟨a, cap, by rw [e1.out, e2.out, e3.out]; rfl, ?_, by rw [e2.out]; exact hc, hm, fun b h => .inl ⟨h, e2.out⟩, HB3.out _ _ _⟩
          rw [e2.out]
          exact HR.out.below (HB3.out _ _ _)
        · have e1 := Lib.hid (show rsE first fs.length (f 0) = 0 by rw [hBE.out, if_neg c1, if_neg c2])
          obtain ⟨k, hk⟩ : ∃ k : Nat, fr - B = (k : Int) := ⟨(fr - B).toNat, by omega⟩
          have hkn : (fr - B).toNat = k := by omega
          have e2 := Lib.hid (show rsL room first fs f = refL room B fs f by rw [hBL.out, if_pos e1.out])
          have e3 := Lib.hid (show rsF room first fs f = (if room < ((fs.take k ++ [f]).length : Int) then B + 1 else B) by rw [hBF.out, if_pos e1.out, hkn])
          have e4 := Lib.hid (show refL room B fs f = if room < ((fs.take k ++ [f]).length : Int) then (fs.take k ++ [f]).drop 1 else fs.take k ++ [f] by unfold refL; rw [HFR.out, hkn])
          have hkl : k ≤ fs.length := by omega
          have hw1 : IntKind.i64.wrap (fr - B) = (k : Int) := by rw [hk]; exact IntWalk.i64_in _ (by omega)
          have hk0 : (0 : Int) ≤ (k : Int) := by omega
          have hk1 : (k : Int) ≤ (cap : Int) := by omega
          have HKN := Lib.hid hkn
          have HK := Lib.hid hk
          have hd1 : decide (B + (fs.length : Int) < fr) = false := by simpa using c1
          have hd2 : decide (fr < B) = false := by simpa using c2
          have C1 := Lib.hid c1
          have C2 := Lib.hid c2
          have l0 : w.heap.size < W2.heap.size := by have := hz2.out; omega
          have l1 : w.heap.size + 1 < W2.heap.size := by have := hz2.out; omega
          have l2 : w.heap.size + 2 < W2.heap.size := by have := hz2.out; omega
          clear hBE hBL hBF hkn hk
          obtain ⟨i0, hi0, iz0, iz1, iz2⟩ := info_parts infoS
          have hlk : (fs.take k).length = k := by rw [List.length_take]; omega
          have hbA : Below W2.heap.size W2 (W2.alloc (.cells #[] 33)) := (Below.refl _ W2).alloc (Nat.le_refl _) _
          have hsrc := row_src (row_take (HR.out.below (HB2.out.trans (hbA.mono HB2.out.size))) k)
          rw [hlk] at hsrc
          have HSRC := Lib.hid hsrc
          have hnl := Lib.hid (show (flat stL (fs.take k)).length = k * 66 by rw [flat_len stL_len, hlk])
          have hone := Lib.hid (one_flat stL_one (fs.take k))
          have HBA := Lib.hid hbA
          have HLK := Lib.hid hlk
          have hq1 : 0 + k ≤ maxLen := by unfold maxLen; omega
          have hq2 : (0 + k) * 528 ≤ 140737488355328 := by omega
          clear hsrc hbA hlk
          go_upto_region 8 with (first
            | (refine wpList_append_on _ (by rfl) (.tmp 41) (.tmp 49) _ (by rfl) 33 i0 _ 66 528 Try.underlying51 hi0 iz0 iz1 iz2 (by rfl) (by omega) (.slice (some ⟨W2.heap.size, 0, none⟩) 0 0) 0 [] (by rfl) (by exact On.empty _ _ _) a k cap (flat stL (fs.take k)) (by rfl) hnl.out HSRC.out hone.out hq1 hq2 ?_; intro v' w1 hown1 hg1 hat1; change wpList _ _ _ _ _ w1)
            | fail)
          simp only [Nat.zero_add, List.nil_append] at hown1
          obtain ⟨a1, cap1, rfl, hkc1, hcm1⟩ := hown1.slice
          have hb1 : Below W2.heap.size W2 w1 := HBA.out.grown hg1 (by simp) (fun k e => by simp [Value.ownBlock] at e; omega)
          have X1 := HX2.out.below hb1 l0
          have Y1 := HY2.out.below hb1 l2
          have S1 := HS2.out.below hb1 l1
          have hz3 := hb1.size
          have HB4 := Lib.hid (HB2.out.trans (hb1.mono (by omega)))
          have HO1 := Lib.hid (show ∀ g, (Value.slice a1 k cap1).ownBlock = some g → W2.heap.size ≤ g from fun g e => (own_le hat1 (n := W2.heap.size) (by simp) g e).elim (fun e2 => by simp [Value.ownBlock] at e2; omega) id)
          have hci := LC.info
          have hc66 := LC.size
          have hone2 := Lib.hid (show ∀ u ∈ C.toList, u.oneCell' = true from fun u hu => (Array.all_eq_true_iff_forall_mem.1 LC.one) u (by simpa using hu))
          have hln2 := Lib.hid (show C.toList.length = 1 * 66 by simp [LC.size])
          have hown1' := Lib.hid (hown1.alloc (.cells C 33))
          have hq3 : k + 1 ≤ maxLen := by unfold maxLen; omega
          have hq4 : (k + 1) * 528 ≤ 140737488355328 := by omega
          have m0 : w.heap.size < w1.heap.size := by omega
          have m1 : w.heap.size + 1 < w1.heap.size := by omega
          have m2 : w.heap.size + 2 < w1.heap.size := by omega
          have hXa := Lib.hid (X1.alloc (.cells C 33))
          have hYa := Lib.hid (Y1.alloc (.cells C 33))
          have hBa := Lib.hid (HB4.out.alloc (by have := HB4.out.size; omega) (.cells C 33))
          have HLC := Lib.hid LC
          clear x0 x1 x2 s0 y0 y1 y2 z0 z1 z2 hown1 hb1 Y1 X1 LC hg1 hat1 HB3
          go_upto_region 9 with (first
            | (refine wpList_load_blk (by rfl) 33 _ (by rfl) (w.heap.size + 1) (by rfl) _ C _ S1 Try.underlying33 (by rfl) hci ?_)
            | (refine wpList_append_on _ (by rfl) (.tmp 51) (.tmp 53) _ (by rfl) 33 i0 _ 66 528 Try.underlying51 hi0 iz0 iz1 iz2 (by rfl) (by omega) (.slice a1 k cap1) k (flat stL (fs.take k)) (by rfl) (by exact hown1'.out) (some ⟨w1.heap.size, 0, none⟩) 1 1 C.toList (by rfl) hln2.out (by exact src_new _ _ 1 C.toList) hone2.out hq3 hq4 ?_; intro v'' w2 hown2 hg2 hat2; change wpList _ _ _ _ _ w2)
            | fail)
          have X2 := hXa.out.grown' hg2 (fun e => by have := HO1.out _ e; omega)
          have Y2 := hYa.out.grown' hg2 (fun e => by have := HO1.out _ e; omega)
          have hB2 := hBa.out.grown hg2 (by simp; omega) (fun g e => by have := HO1.out g e; omega)
          have hfl : flat stL (fs.take k) ++ C.toList = flat stL (fs.take k ++ [f]) := by rw [flat_snoc, HLC.out.eq]; rfl
          rw [hfl] at hown2
          have hg2ne1 := hown2.blk_ne X2 (by decide)
          have hg2ne2 := hown2.blk_ne Y2 (by decide)
          rcases hown2.form with ⟨_, hk0', _⟩ | ⟨g2, cap2, rfl, hnc2, hcm2, hgo, -, -, -⟩
          · exact absurd hk0' (by omega)
          have HG2 : Hid (w.heap.size ≤ g2) := Lib.hid ((own_le hat2 (n := w.heap.size) (by simp; omega) g2 hgo).elim (fun e => by have := HO1.out _ e; omega) id)
          clear hgo
          have x0 : w2.cell? ⟨w.heap.size, 0, none⟩ = some (.int .i64 room) := X2.cell 0
          have x1 : w2.cell? ⟨w.heap.size, 1, none⟩ = some (.int .i64 B) := X2.cell 1
          have x2 := X2.frozen 1
          have x3 := X2.frozen 2
          have x4 : w2.cell? ⟨w.heap.size, 2, none⟩ = some (.slice a fs.length cap) := X2.cell 2
          have y0 := Y2.cell 0
          have y1 := Y2.cell 1
          have y2 := Y2.cell 2
          have z0 := Y2.frozen 0
          have z1 := Y2.frozen 1
          have z2 := Y2.frozen 2
          have HXF := Lib.hid X2
          have HYF := Lib.hid Y2
          have HBF := Lib.hid hB2
          have HON := Lib.hid hown2
          have HN1 := Lib.hid hg2ne1
          have HN2 := Lib.hid hg2ne2
          have hne1 : ¬ w.heap.size = w.heap.size + 2 := by omega
          have hne2 : ¬ w.heap.size + 2 = w.heap.size := by omega
          clear X2 Y2 hB2 hown2 hg2ne1 hg2ne2 hg2 hat2 S1 hfl
          have hlen1 : ((fs.take k ++ [f]).length : Int) = (k : Int) + 1 := by rw [List.length_append, HLK.out]; simp
          have HLN := Lib.hid hlen1
          clear hlen1
          by_cases c3 : room < (k : Int) + 1
          · have hd3 : decide (room < (k : Int) + 1) = true := by simpa using c3
            have hc21 : ¬ cap2 = 1 := by omega
            have hk2 : (1 : Int) ≤ (k : Int) + 1 := by omega
            have hk3 : (k : Int) + 1 ≤ (cap2 : Int) := by omega
            have hk4 : (1 : Int) ≤ (cap2 : Int) := by omega
            have hB9 : B + 1 ≤ 4611686018427387905 := by omega
            have hw3 : IntKind.i64.wrap (B + 1) = B + 1 := IntWalk.i64_in _ (by omega)
            have C3 := Lib.hid (show room < ((fs.take k ++ [f]).length : Int) by rw [HLN.out]; exact c3)
            have HD := Lib.hid (show ((fs.take k ++ [f]).drop 1).length = k by rw [List.length_drop, List.length_append, HLK.out]; simp)
            go_wp2_with fail
            refine bodyPost_ret (pair_results3 rfl _ _ (w.heap.size + 2) _ _ _ (((((HYF.out.far (p := ⟨w.heap.size, 1, none⟩) hne2 _).far (p := ⟨w.heap.size, 2, none⟩) hne2 _).set_ 0 _).set_ 1 _).set_ 2 _) (by rfl) (by rfl) (by rfl)) rfl ⟨some ⟨g2, 66, none⟩, cap2 - 1, ?_, ?_, ?_, by omega, fun b h => .inr (by cases h; exact HG2.out), ?_⟩
            · rw [e1.out, e2.out, e3.out, e4.out, if_pos C3.out, if_pos C3.out, HD.out]
              rfl
            · rw [e2.out, e4.out, if_pos C3.out]
              have hon := ((((HON.out.far (p := ⟨w.heap.size, 1, none⟩) HN1.out (.int .i64 (B + 1))).far (p := ⟨w.heap.size, 2, none⟩) HN1.out (Value.slice (some { block := g2, off := 66 }) k (cap2 - 1))).far (p := ⟨w.heap.size + 2, 0, none⟩) HN2.out (.int .i64 room)).far (p := ⟨w.heap.size + 2, 1, none⟩) HN2.out (.int .i64 (B + 1))).far (p := ⟨w.heap.size + 2, 2, none⟩) HN2.out (Value.slice (some { block := g2, off := 66 }) k (cap2 - 1))
              have hk9 : k + 1 = (fs.take k ++ [f]).length := by rw [List.length_append, HLK.out]; rfl
              rw [hk9] at hon
              exact st_tail (row_of_on (fun x hx => (List.mem_append.1 hx).elim (fun h => HR.out.1 x (List.mem_of_mem_take h)) (fun h => by rw [List.mem_singleton.1 h]; exact hw)) hon) (by rw [← hk9]; omega)
            · rw [e2.out, e4.out, if_pos C3.out, HD.out]
              omega
            · exact ((((HBF.out.setCell (p := ⟨w.heap.size, 1, none⟩) (Nat.le_refl _) _).setCell (p := ⟨w.heap.size, 2, none⟩) (Nat.le_refl _) _).setCell (p := ⟨w.heap.size + 2, 0, none⟩) (by show w.heap.size ≤ w.heap.size + 2; omega) _).setCell (p := ⟨w.heap.size + 2, 1, none⟩) (by show w.heap.size ≤ w.heap.size + 2; omega) _).setCell (p := ⟨w.heap.size + 2, 2, none⟩) (by show w.heap.size ≤ w.heap.size + 2; omega) _
          · have hd3 : decide (room < (k : Int) + 1) = false := by simpa using c3
            have C3 := Lib.hid (show ¬ room < ((fs.take k ++ [f]).length : Int) by rw [HLN.out]; exact c3)
            have hk9 := Lib.hid (show (fs.take k ++ [f]).length = k + 1 by rw [List.length_append, HLK.out]; rfl)
            go_wp2_with fail
            refine bodyPost_ret (pair_results3 rfl _ _ (w.heap.size + 2) _ _ _ ((((HYF.out.far (p := ⟨w.heap.size, 2, none⟩) hne2 _).set_ 0 _).set_ 1 _).set_ 2 _) (by rfl) (by rfl) (by rfl)) rfl ⟨some ⟨g2, 0, none⟩, cap2, ?_, ?_, ?_, hcm2, fun b h => .inr (by cases h; exact HG2.out), ?_⟩
            · rw [e1.out, e2.out, e3.out, e4.out, if_neg (Int.not_lt.2 C3.out), if_neg (Int.not_lt.2 C3.out), hk9.out]
              rfl
            · rw [e2.out, e4.out, if_neg (Int.not_lt.2 C3.out)]
              have hon := (((HON.out.far (p := ⟨w.heap.size, 2, none⟩) HN1.out (Value.slice (some { block := g2, off := 0 }) (k + 1) cap2)).far (p := ⟨w.heap.size + 2, 0, none⟩) HN2.out (.int .i64 room)).far (p := ⟨w.heap.size + 2, 1, none⟩) HN2.out (.int .i64 B)).far (p := ⟨w.heap.size + 2, 2, none⟩) HN2.out (Value.slice (some { block := g2, off := 0 }) (k + 1) cap2)
              rw [← hk9.out] at hon
              have hr := row_of_on (fun x hx => (List.mem_append.1 hx).elim (fun h => HR.out.1 x (List.mem_of_mem_take h)) (fun h => by rw [List.mem_singleton.1 h]; exact hw)) hon
              rw [hk9.out] at hr
              exact hr
            · rw [e2.out, e4.out, if_neg (Int.not_lt.2 C3.out), hk9.out]
              exact hnc2
            · exact (((HBF.out.setCell (p := ⟨w.heap.size, 2, none⟩) (Nat.le_refl _) _).setCell (p := ⟨w.heap.size + 2, 0, none⟩) (by show w.heap.size ≤ w.heap.size + 2; omega) _).setCell (p := ⟨w.heap.size + 2, 1, none⟩) (by show w.heap.size ≤ w.heap.size + 2; omega) _).setCell (p := ⟨w.heap.size + 2, 2, none⟩) (by show w.heap.size ≤ w.heap.size + 2; omega) _
end Go.Proofs.Ytblnfkhaicjeaaa.Sav
