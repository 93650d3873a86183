/-
  backstaylaw29.do: the other calls. Conditions: numbers without overflow.
-/
import Derived.Test.YtmceaffoffemlaaNetV
import Derived.Test.YtmceaffoffemlaaNetG
namespace Go.Proofs.Ytmceaffoffemlaa.Netw
open Go.RowKit
set_option linter.all false

def O3 (w : World) (s : NS) (n : Nat) : Nat → Prop := fun g => Own s n g ∨ g = w.heap.size ∨ g = w.heap.size + 2
/-- In the middle of do: the program's net holds mp, the document's md. -/
structure LI (w : World) (B n : Nat) (s s' : NS) (mp md : MN) (a : Nat → Option Addr) (l c : Nat → Nat) (es : Nat → List E) (ov : Array Value) (W : World) : Prop where
  pn : PN W B n s' mp
  dn : DN W (O3 w s' n) a l c es md
  op : Blk W (w.heap.size + 1) 122 ov
  res : Blk W (w.heap.size + 2) 71 z7
  touch : Touch (Own s n) w W
  out : ∀ g, Own s' n g → Own s n g ∨ w.heap.size + 3 ≤ g
  own : ∀ g, Own s n g → g < w.heap.size
section
variable {w W W2 : World} {B n : Nat} {s s' : NS} {mp md mp2 md2 : MN} {a a2 : Nat → Option Addr} {l c l2 c2 : Nat → Nat} {es es2 : Nat → List E} {ov : Array Value}
theorem LI.far (h : LI w B n s s' mp md a l c es ov W) {g : Nat} (hg : w.heap.size ≤ g) (hg2 : g < w.heap.size + 3) : ¬ Own s' n g := fun e => (h.out g e).elim (fun q => by have := h.own g q; omega) (fun q => by omega)
theorem LI.size (h : LI w B n s s' mp md a l c es ov W) : w.heap.size + 3 ≤ W.heap.size := by have := h.res.lt; omega
theorem LI.o3 (h : LI w B n s s' mp md a l c es ov W) : ∀ g, O3 w s' n g → g < W.heap.size := fun g hg => by
  have := h.size
  rcases hg with q | q | q
  · exact h.pn.own_lt g q
  · omega
  · omega
theorem LI.below (h : LI w B n s s' mp md a l c es ov W) (hb : Below W.heap.size W W2) : LI w B n s s' mp md a l c es ov W2 :=
  ⟨h.pn.below hb, h.dn.below hb, h.op.below hb h.op.lt, h.res.below hb h.res.lt, h.touch.trans (Touch.of_below (S := noB) hb) (fun _ e => e.elim), h.out, h.own⟩
theorem LI.doc (h : LI w B n s s' mp md a l c es ov W) (hb : Below W.heap.size W W2) (hD : DN W2 (O3 w s' n) a2 l2 c2 es2 md2) : LI w B n s s' mp md2 a2 l2 c2 es2 ov W2 :=
  ⟨h.pn.below hb, hD, h.op.below hb h.op.lt, h.res.below hb h.res.lt, h.touch.trans (Touch.of_below (S := noB) hb) (fun _ e => e.elim), h.out, h.own⟩
theorem LI.prog (h : LI w B n s s' mp md a l c es ov W) (hW : Went W B n s' mp2 W2) : ∃ s2, LI w B n s s2 mp2 md a l c es ov W2 := by
  obtain ⟨s2, hP, hT, hO⟩ := hW
  have hz := h.size
  refine ⟨s2, hP, ?_, h.op.touch hT (h.far (by omega) (by omega)), h.res.touch hT (h.far (by omega) (by omega)), ?_, fun g hg => (hO g hg).elim (h.out g) (fun e => .inr (by omega)), h.own⟩
  · exact h.dn.go (hT.mono fun g hg => .inl (.inl hg)) (fun g hg => hg.elim (fun q => (hO g q).imp .inl id) (fun q => .inl (.inr q)))
  · exact h.touch.trans hT (fun k hk => (h.out k hk).imp id (fun e => by omega))
theorem LI.done (h : LI w B n s s' mp mp a l c es ov W) {c0 : Int} {e : Ending} (hT : Touch (fun g => g = w.heap.size ∨ g = w.heap.size + 2) W W2) (he : e = .returned (.tuple #[dnv a l c mp.full mp.long mp.moved, .bool true])) (hm : MOk mp c0) : DoRes w B n s c0 e W2 := by
  have hz := h.size
  refine ⟨mp, s', a, l, c, es, he, h.pn.touch hT (fun g hg e => ?_), ?_, hm, h.touch.trans hT (fun k hk => .inr (by omega)), fun g hg => (h.out g hg).imp id (fun e => by omega)⟩
  · rcases e with e | e <;> exact h.far (by omega) (by omega) hg
  · exact h.dn.go (hT.mono fun g hg => .inl (.inr hg)) (fun g hg => .inl (.inl hg))
theorem LI.store (h : LI w B n s s' mp md a l c es ov W) (hT : Touch (fun g => g = w.heap.size) W W2) : LI w B n s s' mp md a l c es ov W2 := by
  refine ⟨h.pn.touch hT (fun g hg e => h.far (by omega) (by omega) hg), h.dn.go (hT.mono fun g hg => .inl (.inr (.inl hg))) (fun g hg => .inl hg), h.op.touch hT (by omega), h.res.touch hT (by omega), h.touch.trans hT (fun k hk => .inr (by omega)), h.out, h.own⟩
end
theorem li_at {w : World} {B n : Nat} {s : NS} {a : Nat → Option Addr} {l c : Nat → Nat} {es : Nat → List E} {m : MN} {ov : Array Value} (hP : PN w B n s m) (hD : DN w (Own s n) a l c es m) :
    LI w B n s s m m a l c es ov (((w.alloc (.cells (nvc a l c m.full m.long m.moved) 71)).alloc (.cells ov 122)).alloc (.cells z7 71)) ∧
    Blk (((w.alloc (.cells (nvc a l c m.full m.long m.moved) 71)).alloc (.cells ov 122)).alloc (.cells z7 71)) w.heap.size 71 (nvc a l c m.full m.long m.moved) := by
  have hB : Below w.heap.size w (((w.alloc (.cells (nvc a l c m.full m.long m.moved) 71)).alloc (.cells ov 122)).alloc (.cells z7 71)) := (((Below.refl _ w).alloc (Nat.le_refl _) _).alloc (by simp) _).alloc (by simp; omega) _
  refine ⟨⟨hP.below hB, (hD.widen (fun g hg => hg.imp id (fun e => by omega))).below hB, ?_, ?_, Touch.of_below hB, fun g hg => .inl hg, hP.own_lt⟩, ((Blk.new w _ _).alloc _).alloc _⟩
  · have := (Blk.new (w.alloc (.cells (nvc a l c m.full m.long m.moved) 71)) 122 ov).alloc (.cells z7 71)
    rw [World.size_alloc] at this; exact this
  · have := Blk.new ((w.alloc (.cells (nvc a l c m.full m.long m.moved) 71)).alloc (.cells ov 122)) 71 z7
    rw [World.size_alloc, World.size_alloc] at this; exact this

set_option maxRecDepth 100000 in
set_option maxHeartbeats 4000000 in
theorem do_else (w : World) (B n : Nat) (s : NS) (a : Nat → Option Addr) (l c : Nat → Nat) (es : Nat → List E) (m : MN) (cm : Int) (kd to_ by_ i bt oft : Int) (da : Option Addr) (dl dc : Nat)
    (hP : PN w B n s m) (hD : DN w (Own s n) a l c es m) (hm : MOk m cm) (k0 : (kd == 0) = false) (k1 : (kd == 1) = false) (k2 : (kd == 2) = false) (k3 : (kd == 3) = false) (k4 : (kd == 4) = false) (k5 : (kd == 5) = false) (k6 : (kd == 6) = false) :
    Calls Try.prog 75 #[.pointer (some ⟨n, 0, none⟩), dnv a l c m.full m.long m.moved, .agg (opv kd to_ by_ i bt da dl dc oft)] w (DoRes w B n s (cm + 200)) := by
  have HP := Lib.hid hP
  have HD := Lib.hid hD
  have HM := Lib.hid (hm.mono (show cm ≤ cm + 200 by omega))
  clear hP hD hm
  unfold dnv nc opv
  go_enter Try.func75, Try.ntmps75
  go_wp2_with fail
  refine bodyPost_ret (v := .tuple #[.agg (nvc a l c m.full m.long m.moved), .bool true]) (by simp [results, Try.results75, go_sem, nvc]) rfl ?_
  have fin : ∀ W, Below w.heap.size w W → DoRes w B n s (cm + 200) (.returned (.tuple #[.agg (nvc a l c m.full m.long m.moved), .bool true])) W := fun W hb =>
    ⟨m, s, a, l, c, es, rfl, HP.out.below hb, HD.out.below hb, HM.out, Touch.of_below hb, fun g hg => .inl hg⟩
  exact fin _ ((((Below.refl _ w).alloc (Nat.le_refl _) _).alloc (by simp) _).alloc (by simp; omega) _)
section
attribute [local go_sem ↓] append_S
set_option maxRecDepth 100000 in
set_option maxHeartbeats 4000000 in
theorem do_send (w : World) (B n : Nat) (s : NS) (a : Nat → Option Addr) (l c : Nat → Nat) (es : Nat → List E) (m : MN) (cm : Int) (to_ by_ i bt oft : Int) (da : Option Addr) (dl dc : Nat) (bs : List Int)
    (hP : PN w B n s m) (hD : DN w (Own s n) a l c es m) (hm : MOk m cm) (hcm : cm ≤ 900000) (hB : B ≤ w.heap.size) (hr : Rd w (Own s n) da dl bs) (hdl : dl ≤ 3000) :
    Calls Try.prog 75 #[.pointer (some ⟨n, 0, none⟩), dnv a l c m.full m.long m.moved, .agg (opv 0 to_ by_ i bt da dl dc oft)] w (DoRes w B n s (cm + 200)) := by
  obtain ⟨h0, _⟩ := li_at (ov := opv 0 to_ by_ i bt da dl dc oft) hP hD
  have H0 := Lib.hid h0
  have hr0 : Rd (((w.alloc (.cells (nvc a l c m.full m.long m.moved) 71)).alloc (.cells (opv 0 to_ by_ i bt da dl dc oft) 122)).alloc (.cells z7 71)) (O3 w s n) da dl bs :=
    (hr.go (Touch.refl _ _) (fun g hg => hg.imp id (fun e => by omega))).below ((((Below.refl _ w).alloc (Nat.le_refl _) _).alloc (by simp) _).alloc (by simp; omega) _)
  have HR := Lib.hid hr0
  have pR' := rsend_any _ (O3 w s n) a l c es m cm to_ by_ da dl dc bs h0.dn hm (by omega) (by rw [hr0.1]; exact hr0) hr0.1 h0.o3
  unfold dnv nc at pR'
  have pR := Lib.hid pR'
  obtain ⟨i0, hi, hz0, hz1, hz2⟩ := info_parts byte_info
  clear h0 pR' hr hr0 hP hD
  unfold dnv nc opv
  go_enter Try.func75, Try.ntmps75
  go_wp2_with (first | (refine pR.out.mono ?_; rintro e w2 ⟨a2, l2, c2, es2, rfl, hD2, hB2⟩; unfold dnv nc) | fail)
  obtain ⟨m2, hm2⟩ : ∃ m2, m2 = (m.send to_ by_ bs).1 := ⟨_, rfl⟩
  obtain ⟨q2, hq2⟩ : ∃ q2, q2 = (m.send to_ by_ bs).2 := ⟨_, rfl⟩
  rw [← hm2, ← hq2]
  rw [← hm2] at hD2
  obtain ⟨g15, hg15⟩ : ∃ g, g = w2.heap.size := ⟨_, rfl⟩
  obtain ⟨U, hU⟩ : ∃ U, U = w2.alloc (.cells (nvc a2 l2 c2 m2.full m2.long m2.moved) 71) := ⟨_, rfl⟩
  unfold nvc at hU
  rw [← hU, ← hg15]
  have hb15 : Blk U g15 71 (nvc a2 l2 c2 m2.full m2.long m2.moved) := by rw [hU, hg15]; exact Blk.new _ _ _
  have hBU2 : Below w2.heap.size w2 U := by rw [hU]; exact (Below.refl _ _).alloc (Nat.le_refl _) _
  have hLU := (H0.out.doc hB2 hD2).below hBU2
  have hrU := (HR.out.below hB2).below hBU2
  have hzU := hLU.size
  have hzU2 : g15 < U.heap.size := hb15.lt
  have hzU3 : w.heap.size + 1 < U.heap.size := by omega
  have hz15 : w.heap.size + 3 ≤ g15 := by have := hB2.size; rw [hg15]; exact Nat.le_trans H0.out.size this
  have ne1 : ¬ g15 = w.heap.size + 1 + 1 := by omega
  have ne2 : ¬ w.heap.size + 1 + 1 = g15 := by omega
  obtain ⟨v1, w1, hrun, hon, hg1, hv1⟩ := run_append_on (P := Try.prog) (U.alloc (.cells #[] 5)).drew 27 27 5 i0 _ 1 1 Try.underlying27 hi hz0 hz1 hz2 rfl (by omega) (.slice (some ⟨U.heap.size, 0, none⟩) 0 0) 0 [] ((On.empty U _ _).drew)
    da dl dc (bs.map (.int .u8)) (by rw [List.length_map, Nat.mul_one, hrU.1]) (row_src ((hrU.below (below_drewN ((Below.refl _ U).alloc (Nat.le_refl _) (.cells #[] 5)) 1)).row)) (one_u8 bs) (by simp only [maxLen]; omega) (by omega)
  rw [Nat.zero_add, List.nil_append] at hon
  have hU1 : Below U.heap.size U (U.alloc (.cells #[] 5)).drew := below_drewN ((Below.refl _ U).alloc (Nat.le_refl _) _) 1
  have hB1 : Below U.heap.size U w1 := hU1.trans ⟨hg1.os, hg1.tape, hg1.output, hg1.size, fun k hk => hg1.block k (Nat.lt_of_lt_of_le hk hU1.size) (fun e => by simp [Value.ownBlock] at e; omega)⟩
  obtain ⟨a1, c1, rfl, _, _⟩ := hon.slice
  have hL1 := hLU.below hB1
  have pS' := send_any w1 B n s m cm to_ by_ a1 dl c1 bs hL1.pn hm (by omega) (by have := hL1.size; omega) hrU.1 (fun W' hb => (hon.below hb (fun g hg => hon.lt g hg)).src)
  have pS : Hid (Calls Try.prog 12 #[.pointer (some ⟨n, 0, none⟩), .int .i64 to_, .int .i64 by_, .slice a1 dl c1] w1 (fun e W => e = .returned (.int .i64 q2) ∧ Went w1 B n s m2 W)) := Lib.hid (by rw [hm2, hq2]; exact pS')
  have hmk : MOk m2 (cm + 200) := by rw [hm2]; exact (hm.send to_ by_ bs).mono (by omega)
  have hb1 := hb15.below hB1 hb15.lt
  have o1 : U.cell? ⟨w.heap.size + 1, 1, none⟩ = some (.int .i64 to_) := hLU.op.cell 1
  have o2 : U.cell? ⟨w.heap.size + 1, 2, none⟩ = some (.int .i64 by_) := hLU.op.cell 2
  have o5 : U.cell? ⟨w.heap.size + 1, 5, none⟩ = some (.slice da dl dc) := hLU.op.cell 5
  have x0 : U.cell? ⟨g15, 0, none⟩ = some (.slice (a2 0) (l2 0) (c2 0)) := hb15.cell 0
  have x1 : U.cell? ⟨g15, 1, none⟩ = some (.slice (a2 1) (l2 1) (c2 1)) := hb15.cell 1
  have x2 : U.cell? ⟨g15, 2, none⟩ = some (.slice (a2 2) (l2 2) (c2 2)) := hb15.cell 2
  have x3 : U.cell? ⟨g15, 3, none⟩ = some (.slice (a2 3) (l2 3) (c2 3)) := hb15.cell 3
  have x4 : U.cell? ⟨g15, 4, none⟩ = some (.int .i64 m2.full) := hb15.cell 4
  have x5 : U.cell? ⟨g15, 5, none⟩ = some (.int .i64 m2.long) := hb15.cell 5
  have x6 : U.cell? ⟨g15, 6, none⟩ = some (.int .i64 m2.moved) := hb15.cell 6
  have HS1 : Hid (w1.cell? ⟨w.heap.size + 1, 1, none⟩ = some (.int .i64 to_) ∧ w1.cell? ⟨w.heap.size + 1, 2, none⟩ = some (.int .i64 by_) ∧ w1.cell? ⟨w.heap.size + 1, 5, none⟩ = some (.slice da dl dc) ∧ w1.cell? ⟨g15, 0, none⟩ = some (.slice (a2 0) (l2 0) (c2 0)) ∧ w1.cell? ⟨g15, 1, none⟩ = some (.slice (a2 1) (l2 1) (c2 1)) ∧ w1.cell? ⟨g15, 2, none⟩ = some (.slice (a2 2) (l2 2) (c2 2)) ∧ w1.cell? ⟨g15, 3, none⟩ = some (.slice (a2 3) (l2 3) (c2 3)) ∧ w1.cell? ⟨g15, 4, none⟩ = some (.int .i64 m2.full) ∧ w1.cell? ⟨g15, 5, none⟩ = some (.int .i64 m2.long) ∧ w1.cell? ⟨g15, 6, none⟩ = some (.int .i64 m2.moved)) := Lib.hid ⟨hL1.op.cell 1, hL1.op.cell 2, hL1.op.cell 5, hb1.cell 0, hb1.cell 1, hb1.cell 2, hb1.cell 3, hb1.cell 4, hb1.cell 5, hb1.cell 6⟩
  have HL1 := Lib.hid hL1
  have HB1 := Lib.hid hb1
  have HMK := Lib.hid hmk
  have HZ := Lib.hid hz15
  rw [append_S] at hrun
  clear hD2 hB2 hb15 hU hg15 hm2 hq2 hBU2 hLU hrU hU1 hB1 hon hg1 hv1 hL1 pS' hmk hb1 pR hz15
  go_upto_region 4 with fail
  go_region_held3 (fun W' => W'.cell? ⟨w.heap.size + 1, 1, none⟩ = some (.int .i64 to_) ∧ W'.cell? ⟨w.heap.size + 1, 2, none⟩ = some (.int .i64 by_) ∧ W'.cell? ⟨w.heap.size + 1, 5, none⟩ = some (.slice da dl dc) ∧ W'.cell? ⟨g15, 0, none⟩ = some (.slice (a2 0) (l2 0) (c2 0)) ∧ W'.cell? ⟨g15, 1, none⟩ = some (.slice (a2 1) (l2 1) (c2 1)) ∧ W'.cell? ⟨g15, 2, none⟩ = some (.slice (a2 2) (l2 2) (c2 2)) ∧ W'.cell? ⟨g15, 3, none⟩ = some (.slice (a2 3) (l2 3) (c2 3)) ∧ W'.cell? ⟨g15, 4, none⟩ = some (.int .i64 m2.full) ∧ W'.cell? ⟨g15, 5, none⟩ = some (.int .i64 m2.long) ∧ W'.cell? ⟨g15, 6, none⟩ = some (.int .i64 m2.moved)) (first | go_keep | exact HS1.out | exact HS3.out) ((first | (go_at_call 12; (with_reducible refine pS.out.mono ?_); rintro e w3 ⟨rfl, hW⟩; obtain ⟨s2, hL3⟩ := HL1.out.prog hW; have hT3 := (show Touch (Own s n) w1 w3 from by obtain ⟨_, _, t, _⟩ := hW; exact t); have k15 := Blk.touch HB1.out hT3 (fun e => by have := HL1.out.own _ e; have := HZ.out; omega); have HS3 : Hid (w3.cell? ⟨w.heap.size + 1, 1, none⟩ = some (.int .i64 to_) ∧ w3.cell? ⟨w.heap.size + 1, 2, none⟩ = some (.int .i64 by_) ∧ w3.cell? ⟨w.heap.size + 1, 5, none⟩ = some (.slice da dl dc) ∧ w3.cell? ⟨g15, 0, none⟩ = some (.slice (a2 0) (l2 0) (c2 0)) ∧ w3.cell? ⟨g15, 1, none⟩ = some (.slice (a2 1) (l2 1) (c2 1)) ∧ w3.cell? ⟨g15, 2, none⟩ = some (.slice (a2 2) (l2 2) (c2 2)) ∧ w3.cell? ⟨g15, 3, none⟩ = some (.slice (a2 3) (l2 3) (c2 3)) ∧ w3.cell? ⟨g15, 4, none⟩ = some (.int .i64 m2.full) ∧ w3.cell? ⟨g15, 5, none⟩ = some (.int .i64 m2.long) ∧ w3.cell? ⟨g15, 6, none⟩ = some (.int .i64 m2.moved)) := Lib.hid ⟨hL3.op.cell 1, hL3.op.cell 2, hL3.op.cell 5, k15.cell 0, k15.cell 1, k15.cell 2, k15.cell 3, k15.cell 4, k15.cell 5, k15.cell 6⟩; have r0 := hL3.res.cell 0; have r1 := hL3.res.cell 1; have r2 := hL3.res.cell 2; have r3 := hL3.res.cell 3; have r4 := hL3.res.cell 4; have r5 := hL3.res.cell 5; have r6 := hL3.res.cell 6; have fr := hL3.res.frozen; unfold z7 at r0 r1 r2 r3 r4 r5 r6; have HL3 := Lib.hid hL3; clear hW hT3 k15 hL3)))
  all_goals
    go_wp2_with fail
    refine bodyPost_ret (v := .tuple #[.agg (nvc a2 l2 c2 m2.full m2.long m2.moved), .bool true]) (by simp [results, Try.results75, go_sem, nvc, r0, r1, r2, r3, r4, r5, r6]) rfl ?_
    refine HL3.out.done ?_ rfl HMK.out
    iterate 7 (refine Touch.setCell ?_ (by simp) _)
    exact Touch.refl _ _
end
end Go.Proofs.Ytmceaffoffemlaa.Netw
