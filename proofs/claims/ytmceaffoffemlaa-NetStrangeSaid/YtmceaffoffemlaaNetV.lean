/-
  backstaylaw29.do: a call at both. Conditions: numbers without overflow.
-/
import Derived.Test.YtmceaffoffemlaaNetU
import Derived.Test.YtmceaffoffemlaaNetN
namespace Go.Proofs.Ytmceaffoffemlaa.Netw
open Go.RowKit
set_option linter.all false

/-- Both nets, behind a call. -/
def DoRes (w : World) (B n : Nat) (s : NS) (c0 : Int) (e : Ending) (W : World) : Prop :=
  ∃ m s' a l c es, e = .returned (.tuple #[dnv a l c m.full m.long m.moved, .bool true]) ∧ PN W B n s' m ∧ DN W (Own s' n) a l c es m ∧ MOk m c0 ∧ Touch (Own s n) w W ∧ ∀ g, Own s' n g → Own s n g ∨ w.heap.size ≤ g
def opv (k to_ by_ i bt : Int) (da : Option Addr) (dl dc : Nat) (oft : Int) : Array Value := #[.int .i64 k, .int .i64 to_, .int .i64 by_, .int .i64 i, .int .u8 bt, .slice da dl dc, .int .i64 oft]
/-- What lies there when do has begun. -/
structure DoAt (w : World) (B n : Nat) (s : NS) (a : Nat → Option Addr) (l c : Nat → Nat) (es : Nat → List E) (m : MN) (cm : Int) (ov : Array Value) (W : World) : Prop where
  pn : PN W B n s m
  dn : DN W (fun g => Own s n g ∨ g = w.heap.size + 2) a l c es m
  ok : MOk m cm
  box : Blk W w.heap.size 71 (nvc a l c m.full m.long m.moved)
  op : Blk W (w.heap.size + 1) 122 ov
  res : Blk W (w.heap.size + 2) 71 z7
  below : Below w.heap.size w W
theorem do_at {w : World} {B n : Nat} {s : NS} {a : Nat → Option Addr} {l c : Nat → Nat} {es : Nat → List E} {m : MN} {cm : Int} {ov : Array Value} (hP : PN w B n s m) (hD : DN w (Own s n) a l c es m) (hm : MOk m cm) :
    DoAt w B n s a l c es m cm ov (((w.alloc (.cells (nvc a l c m.full m.long m.moved) 71)).alloc (.cells ov 122)).alloc (.cells z7 71)) := by
  have hB : Below w.heap.size w (((w.alloc (.cells (nvc a l c m.full m.long m.moved) 71)).alloc (.cells ov 122)).alloc (.cells z7 71)) := (((Below.refl _ w).alloc (Nat.le_refl _) _).alloc (by simp) _).alloc (by simp; omega) _
  refine ⟨hP.below hB, (hD.widen (fun g hg => hg.imp id (fun e => by omega))).below hB, hm, ((Blk.new w _ _).alloc _).alloc _, ?_, ?_, hB⟩
  · have := (Blk.new (w.alloc (.cells (nvc a l c m.full m.long m.moved) 71)) 122 ov).alloc (.cells z7 71)
    rw [World.size_alloc] at this; exact this
  · have := Blk.new ((w.alloc (.cells (nvc a l c m.full m.long m.moved) 71)).alloc (.cells ov 122)) 71 z7
    rw [World.size_alloc, World.size_alloc] at this; exact this
theorem PN.touch {W W' : World} {B n : Nat} {s : NS} {m : MN} {S : Nat → Prop} (h : PN W B n s m) (hT : Touch S W W') (hS : ∀ g, Own s n g → ¬ S g) : PN W' B n s m :=
  ⟨⟨h.net.box.touch hT (hS n (.inl rfl)), fun k hk => On.touch (h.net.way k hk) hT (fun g hg => hS g (.inr (.inl ⟨k, hk, hg⟩))), h.net.ne⟩, h.full, h.long, h.moved, h.len,
    fun k hk j e x he hx => ⟨(h.dat k hk j e x he hx).1, On.touch (h.dat k hk j e x he hx).2 hT (fun g hg => hS g (.inr (.inr ⟨k, j, e, hk, he, hg⟩)))⟩, h.dne, h.low⟩
theorem do_fin {w U w3 Wf : World} {B n : Nat} {s : NS} {m' : MN} {c0 : Int} {a : Nat → Option Addr} {l c : Nat → Nat} {es : Nat → List E} {e : Ending} (hBU : Below w.heap.size w U) (hz : w.heap.size + 3 ≤ U.heap.size) (hW : Went U.drew B n s m' w3)
    (hD : DN U (fun g => Own s n g ∨ g = w.heap.size + 2) a l c es m') (hown : ∀ g, Own s n g → g < w.heap.size) (hT : Touch (fun g => g = w.heap.size + 2) w3 Wf)
    (he : e = .returned (.tuple #[dnv a l c m'.full m'.long m'.moved, .bool true])) (hm : MOk m' c0) : DoRes w B n s c0 e Wf := by
  obtain ⟨s', hP, hT2, hO⟩ := hW
  have hT2' : Touch (Own s n) U w3 := ⟨hT2.os, hT2.tape, hT2.output, hT2.size, hT2.block⟩
  have hO' : ∀ g, Own s' n g → Own s n g ∨ U.heap.size ≤ g := hO
  have hz3 := hT2'.size
  refine ⟨m', s', a, l, c, es, he, hP.touch hT (fun g hg e => ?_), ?_, hm, ?_, fun g hg => (hO' g hg).imp id (fun e => by omega)⟩
  · rcases hO' g hg with q | q
    · have := hown g q; omega
    · omega
  · have h3 : DN w3 (fun g => Own s' n g ∨ g = w.heap.size + 2) a l c es m' := hD.go (hT2'.mono fun g hg => .inl (.inl hg)) (fun g hg => hg.elim (fun q => (hO' g q).imp .inl id) (fun q => .inl (.inr q)))
    exact h3.go (hT.mono fun g hg => .inl (.inr hg)) (fun g hg => .inl (.inl hg))
  · have t1 : Touch (Own s n) w U := Touch.of_below hBU
    have t2 : Touch (Own s n) w w3 := t1.trans hT2' (fun k hk => .inl hk)
    exact t2.trans hT (fun k hk => .inr (by omega))
theorem do_box {w U w3 : World} {n g : Nat} {s : NS} {t : TypeId} {cs : Array Value} (h : Blk U g t cs) (hT : Touch (Own s n) U.drew w3) (hown : ∀ g, Own s n g → g < w.heap.size) (hg : w.heap.size ≤ g) : Blk w3 g t cs :=
  (Blk.drew h).touch hT (fun e => by have := hown g e; omega)
set_option maxRecDepth 100000 in
set_option maxHeartbeats 4000000 in
theorem do_drop (w : World) (B n : Nat) (s : NS) (a : Nat → Option Addr) (l c : Nat → Nat) (es : Nat → List E) (m : MN) (cm : Int) (to_ by_ i bt oft : Int) (da : Option Addr) (dl dc : Nat)
    (hP : PN w B n s m) (hD : DN w (Own s n) a l c es m) (hm : MOk m cm) (hcm : cm ≤ 900000) (hB : B ≤ w.heap.size) (hi : -9223372036854775808 ≤ i ∧ i ≤ 9223372036854775807) :
    Calls Try.prog 75 #[.pointer (some ⟨n, 0, none⟩), dnv a l c m.full m.long m.moved, .agg (opv 2 to_ by_ i bt da dl dc oft)] w (DoRes w B n s (cm + 200)) := by
  have h0 := do_at (ov := opv 2 to_ by_ i bt da dl dc oft) hP hD hm
  have hown := hP.own_lt
  have H0 := Lib.hid h0
  have pR' := fun (W : World) (h : DoAt w B n s a l c es m cm (opv 2 to_ by_ i bt da dl dc oft) W) => rdrop_any W _ a l c es m cm to_ by_ i h.dn hm (fun g hg => hg.elim (h.pn.own_lt g) (fun e => by have := h.res.lt; omega)) hi
  unfold dnv nc at pR'
  have pR := Lib.hid pR'
  have HOWN := Lib.hid hown
  clear h0 pR' hown
  unfold dnv nc opv
  go_enter Try.func75, Try.ntmps75
  go_wp2_with (first | (refine (pR.out _ H0.out).mono ?_; rintro e w2 ⟨a2, l2, c2, es2, rfl, hD2, hB2⟩; unfold dnv nc) | fail)
  obtain ⟨m2, hm2⟩ : ∃ m2, m2 = (m.drop to_ by_ i).1 := ⟨_, rfl⟩
  obtain ⟨q2, hq2⟩ : ∃ q2, q2 = (m.drop to_ by_ i).2 := ⟨_, rfl⟩
  rw [← hm2, ← hq2]
  rw [← hm2] at hD2
  have h2 := H0.out
  have hsz2 := hB2.size
  obtain ⟨g15, hg15⟩ : ∃ g, g = w2.heap.size := ⟨_, rfl⟩
  obtain ⟨U, hU⟩ : ∃ U, U = w2.alloc (.cells (nvc a2 l2 c2 m2.full m2.long m2.moved) 71) := ⟨_, rfl⟩
  unfold nvc at hU
  rw [← hU, ← hg15]
  have hb15 : Blk U g15 71 (nvc a2 l2 c2 m2.full m2.long m2.moved) := by rw [hU, hg15]; exact Blk.new _ _ _
  have hBU2 : Below w2.heap.size w2 U := by rw [hU]; exact (Below.refl _ _).alloc (Nat.le_refl _) _
  have hB0 := hB2.trans (hBU2.mono hB2.size)
  have hBU : Below w.heap.size w U := h2.below.trans (hB0.mono h2.below.size)
  have hop := Blk.below h2.op hB0 h2.op.lt
  have hrs := Blk.below h2.res hB0 h2.res.lt
  have hPU := h2.pn.below hB0
  have hDU := hD2.below hBU2
  have hpS : Calls Try.prog 43 #[.pointer (some ⟨n, 0, none⟩), .int .i64 to_, .int .i64 by_, .int .i64 i] U.drew (SendTo U.drew B n s (m.drop to_ by_ i)) := drop_any U.drew B n s m cm to_ by_ i (hPU.below (below_drewN (Below.refl _ _) 1)) hm (by omega) (by have := hBU.size; exact Nat.le_trans hB this) hi
  have pS : Hid (Calls Try.prog 43 #[.pointer (some ⟨n, 0, none⟩), .int .i64 to_, .int .i64 by_, .int .i64 i] U.drew (fun e W => e = .returned (.int .i64 q2) ∧ Went U.drew B n s m2 W)) := Lib.hid (by rw [hm2, hq2]; exact hpS)
  have hmk : MOk m2 (cm + 200) := by rw [hm2]; exact (hm.drop to_ by_ i).mono (by omega)
  have o1 : U.cell? ⟨w.heap.size + 1, 1, none⟩ = some (.int .i64 to_) := hop.cell 1
  have o2 : U.cell? ⟨w.heap.size + 1, 2, none⟩ = some (.int .i64 by_) := hop.cell 2
  have o3 : U.cell? ⟨w.heap.size + 1, 3, none⟩ = some (.int .i64 i) := hop.cell 3
  have x0 : U.cell? ⟨g15, 0, none⟩ = some (.slice (a2 0) (l2 0) (c2 0)) := hb15.cell 0
  have x1 : U.cell? ⟨g15, 1, none⟩ = some (.slice (a2 1) (l2 1) (c2 1)) := hb15.cell 1
  have x2 : U.cell? ⟨g15, 2, none⟩ = some (.slice (a2 2) (l2 2) (c2 2)) := hb15.cell 2
  have x3 : U.cell? ⟨g15, 3, none⟩ = some (.slice (a2 3) (l2 3) (c2 3)) := hb15.cell 3
  have x4 : U.cell? ⟨g15, 4, none⟩ = some (.int .i64 m2.full) := hb15.cell 4
  have x5 : U.cell? ⟨g15, 5, none⟩ = some (.int .i64 m2.long) := hb15.cell 5
  have x6 : U.cell? ⟨g15, 6, none⟩ = some (.int .i64 m2.moved) := hb15.cell 6
  have hzU : w.heap.size + 3 ≤ g15 := by have := h2.res.lt; omega
  have hzU2 : g15 < U.heap.size := hb15.lt
  have HBU := Lib.hid hBU
  have HDU := Lib.hid hDU
  have H15 := Lib.hid hb15
  have HOP := Lib.hid hop
  have HRS := Lib.hid hrs
  have HMK := Lib.hid hmk
  have ne1 : ¬ g15 = w.heap.size + 1 + 1 := by omega
  have ne2 : ¬ w.heap.size + 1 + 1 = g15 := by omega
  have HZ := Lib.hid hzU
  clear h2 hB2 hD2 hBU2 hB0 hop hrs hPU hDU hpS hmk hb15 hBU hU hg15 hm2 hq2 hsz2 hzU hP hD
  go_upto_region 11 with fail
  go_region_held3 (fun W' => W'.cell? ⟨w.heap.size + 1, 1, none⟩ = some (.int .i64 to_) ∧ W'.cell? ⟨w.heap.size + 1, 2, none⟩ = some (.int .i64 by_) ∧ W'.cell? ⟨w.heap.size + 1, 3, none⟩ = some (.int .i64 i) ∧  W'.cell? ⟨g15, 0, none⟩ = some (.slice (a2 0) (l2 0) (c2 0)) ∧ W'.cell? ⟨g15, 1, none⟩ = some (.slice (a2 1) (l2 1) (c2 1)) ∧ W'.cell? ⟨g15, 2, none⟩ = some (.slice (a2 2) (l2 2) (c2 2)) ∧ W'.cell? ⟨g15, 3, none⟩ = some (.slice (a2 3) (l2 3) (c2 3)) ∧ W'.cell? ⟨g15, 4, none⟩ = some (.int .i64 m2.full) ∧ W'.cell? ⟨g15, 5, none⟩ = some (.int .i64 m2.long) ∧ W'.cell? ⟨g15, 6, none⟩ = some (.int .i64 m2.moved)) (first | go_keep | exact HS3.out) ((first | (go_at_call 43; (with_reducible refine pS.out.mono ?_); rintro e w3 ⟨rfl, hW⟩; have hT3 := (show Touch (Own s n) U.drew w3 from by obtain ⟨_, _, t, _⟩ := hW; exact t); have k15 := do_box H15.out hT3 HOWN.out (by have := HZ.out; omega); have kop := do_box HOP.out hT3 HOWN.out (by omega); have krs := do_box HRS.out hT3 HOWN.out (by omega); have HS3 : Hid (w3.cell? ⟨w.heap.size + 1, 1, none⟩ = some (.int .i64 to_) ∧ w3.cell? ⟨w.heap.size + 1, 2, none⟩ = some (.int .i64 by_) ∧ w3.cell? ⟨w.heap.size + 1, 3, none⟩ = some (.int .i64 i) ∧  w3.cell? ⟨g15, 0, none⟩ = some (.slice (a2 0) (l2 0) (c2 0)) ∧ w3.cell? ⟨g15, 1, none⟩ = some (.slice (a2 1) (l2 1) (c2 1)) ∧ w3.cell? ⟨g15, 2, none⟩ = some (.slice (a2 2) (l2 2) (c2 2)) ∧ w3.cell? ⟨g15, 3, none⟩ = some (.slice (a2 3) (l2 3) (c2 3)) ∧ w3.cell? ⟨g15, 4, none⟩ = some (.int .i64 m2.full) ∧ w3.cell? ⟨g15, 5, none⟩ = some (.int .i64 m2.long) ∧ w3.cell? ⟨g15, 6, none⟩ = some (.int .i64 m2.moved)) := Lib.hid ⟨kop.cell 1, kop.cell 2, kop.cell 3, k15.cell 0, k15.cell 1, k15.cell 2, k15.cell 3, k15.cell 4, k15.cell 5, k15.cell 6⟩; have r0 := krs.cell 0; have r1 := krs.cell 1; have r2 := krs.cell 2; have r3 := krs.cell 3; have r4 := krs.cell 4; have r5 := krs.cell 5; have r6 := krs.cell 6; have fr := krs.frozen; unfold z7 at r0 r1 r2 r3 r4 r5 r6; have HW := Lib.hid hW; clear hW hT3 k15 kop krs)))
  all_goals
    go_wp2_with fail
    refine bodyPost_ret (v := .tuple #[.agg (nvc a2 l2 c2 m2.full m2.long m2.moved), .bool true]) (by simp [results, Try.results75, go_sem, nvc, r0, r1, r2, r3, r4, r5, r6]) rfl ?_
    refine do_fin HBU.out (by have := HZ.out; omega) HW.out HDU.out HOWN.out ?_ rfl HMK.out
    iterate 7 (refine Touch.setCell ?_ (by simp) _)
    exact Touch.refl _ _
set_option maxRecDepth 100000 in
set_option maxHeartbeats 4000000 in
theorem do_double (w : World) (B n : Nat) (s : NS) (a : Nat → Option Addr) (l c : Nat → Nat) (es : Nat → List E) (m : MN) (cm : Int) (to_ by_ i bt oft : Int) (da : Option Addr) (dl dc : Nat)
    (hP : PN w B n s m) (hD : DN w (Own s n) a l c es m) (hm : MOk m cm) (hcm : cm ≤ 900000) (hB : B ≤ w.heap.size) (hi : -9223372036854775808 ≤ i ∧ i ≤ 9223372036854775807) :
    Calls Try.prog 75 #[.pointer (some ⟨n, 0, none⟩), dnv a l c m.full m.long m.moved, .agg (opv 3 to_ by_ i bt da dl dc oft)] w (DoRes w B n s (cm + 200)) := by
  have h0 := do_at (ov := opv 3 to_ by_ i bt da dl dc oft) hP hD hm
  have hown := hP.own_lt
  have H0 := Lib.hid h0
  have pR' := fun (W : World) (h : DoAt w B n s a l c es m cm (opv 3 to_ by_ i bt da dl dc oft) W) => rdouble_any W _ a l c es m cm to_ by_ i h.dn hm (by omega) (fun g hg => hg.elim (h.pn.own_lt g) (fun e => by have := h.res.lt; omega)) hi
  unfold dnv nc at pR'
  have pR := Lib.hid pR'
  have HOWN := Lib.hid hown
  clear h0 pR' hown
  unfold dnv nc opv
  go_enter Try.func75, Try.ntmps75
  go_wp2_with (first | (refine (pR.out _ H0.out).mono ?_; rintro e w2 ⟨a2, l2, c2, es2, rfl, hD2, hB2⟩; unfold dnv nc) | fail)
  obtain ⟨m2, hm2⟩ : ∃ m2, m2 = (m.double to_ by_ i).1 := ⟨_, rfl⟩
  obtain ⟨q2, hq2⟩ : ∃ q2, q2 = (m.double to_ by_ i).2 := ⟨_, rfl⟩
  rw [← hm2, ← hq2]
  rw [← hm2] at hD2
  have h2 := H0.out
  have hsz2 := hB2.size
  obtain ⟨g15, hg15⟩ : ∃ g, g = w2.heap.size := ⟨_, rfl⟩
  obtain ⟨U, hU⟩ : ∃ U, U = w2.alloc (.cells (nvc a2 l2 c2 m2.full m2.long m2.moved) 71) := ⟨_, rfl⟩
  unfold nvc at hU
  rw [← hU, ← hg15]
  have hb15 : Blk U g15 71 (nvc a2 l2 c2 m2.full m2.long m2.moved) := by rw [hU, hg15]; exact Blk.new _ _ _
  have hBU2 : Below w2.heap.size w2 U := by rw [hU]; exact (Below.refl _ _).alloc (Nat.le_refl _) _
  have hB0 := hB2.trans (hBU2.mono hB2.size)
  have hBU : Below w.heap.size w U := h2.below.trans (hB0.mono h2.below.size)
  have hop := Blk.below h2.op hB0 h2.op.lt
  have hrs := Blk.below h2.res hB0 h2.res.lt
  have hPU := h2.pn.below hB0
  have hDU := hD2.below hBU2
  have hpS : Calls Try.prog 44 #[.pointer (some ⟨n, 0, none⟩), .int .i64 to_, .int .i64 by_, .int .i64 i] U.drew (SendTo U.drew B n s (m.double to_ by_ i)) := double_any U.drew B n s m cm to_ by_ i (hPU.below (below_drewN (Below.refl _ _) 1)) hm (by omega) (by have := hBU.size; exact Nat.le_trans hB this) hi
  have pS : Hid (Calls Try.prog 44 #[.pointer (some ⟨n, 0, none⟩), .int .i64 to_, .int .i64 by_, .int .i64 i] U.drew (fun e W => e = .returned (.int .i64 q2) ∧ Went U.drew B n s m2 W)) := Lib.hid (by rw [hm2, hq2]; exact hpS)
  have hmk : MOk m2 (cm + 200) := by rw [hm2]; exact (hm.double to_ by_ i).mono (by omega)
  have o1 : U.cell? ⟨w.heap.size + 1, 1, none⟩ = some (.int .i64 to_) := hop.cell 1
  have o2 : U.cell? ⟨w.heap.size + 1, 2, none⟩ = some (.int .i64 by_) := hop.cell 2
  have o3 : U.cell? ⟨w.heap.size + 1, 3, none⟩ = some (.int .i64 i) := hop.cell 3
  have x0 : U.cell? ⟨g15, 0, none⟩ = some (.slice (a2 0) (l2 0) (c2 0)) := hb15.cell 0
  have x1 : U.cell? ⟨g15, 1, none⟩ = some (.slice (a2 1) (l2 1) (c2 1)) := hb15.cell 1
  have x2 : U.cell? ⟨g15, 2, none⟩ = some (.slice (a2 2) (l2 2) (c2 2)) := hb15.cell 2
  have x3 : U.cell? ⟨g15, 3, none⟩ = some (.slice (a2 3) (l2 3) (c2 3)) := hb15.cell 3
  have x4 : U.cell? ⟨g15, 4, none⟩ = some (.int .i64 m2.full) := hb15.cell 4
  have x5 : U.cell? ⟨g15, 5, none⟩ = some (.int .i64 m2.long) := hb15.cell 5
  have x6 : U.cell? ⟨g15, 6, none⟩ = some (.int .i64 m2.moved) := hb15.cell 6
  have hzU : w.heap.size + 3 ≤ g15 := by have := h2.res.lt; omega
  have hzU2 : g15 < U.heap.size := hb15.lt
  have HBU := Lib.hid hBU
  have HDU := Lib.hid hDU
  have H15 := Lib.hid hb15
  have HOP := Lib.hid hop
  have HRS := Lib.hid hrs
  have HMK := Lib.hid hmk
  have ne1 : ¬ g15 = w.heap.size + 1 + 1 := by omega
  have ne2 : ¬ w.heap.size + 1 + 1 = g15 := by omega
  have HZ := Lib.hid hzU
  clear h2 hB2 hD2 hBU2 hB0 hop hrs hPU hDU hpS hmk hb15 hBU hU hg15 hm2 hq2 hsz2 hzU hP hD
  go_upto_region 14 with fail
  go_region_held3 (fun W' => W'.cell? ⟨w.heap.size + 1, 1, none⟩ = some (.int .i64 to_) ∧ W'.cell? ⟨w.heap.size + 1, 2, none⟩ = some (.int .i64 by_) ∧ W'.cell? ⟨w.heap.size + 1, 3, none⟩ = some (.int .i64 i) ∧  W'.cell? ⟨g15, 0, none⟩ = some (.slice (a2 0) (l2 0) (c2 0)) ∧ W'.cell? ⟨g15, 1, none⟩ = some (.slice (a2 1) (l2 1) (c2 1)) ∧ W'.cell? ⟨g15, 2, none⟩ = some (.slice (a2 2) (l2 2) (c2 2)) ∧ W'.cell? ⟨g15, 3, none⟩ = some (.slice (a2 3) (l2 3) (c2 3)) ∧ W'.cell? ⟨g15, 4, none⟩ = some (.int .i64 m2.full) ∧ W'.cell? ⟨g15, 5, none⟩ = some (.int .i64 m2.long) ∧ W'.cell? ⟨g15, 6, none⟩ = some (.int .i64 m2.moved)) (first | go_keep | exact HS3.out) ((first | (go_at_call 44; (with_reducible refine pS.out.mono ?_); rintro e w3 ⟨rfl, hW⟩; have hT3 := (show Touch (Own s n) U.drew w3 from by obtain ⟨_, _, t, _⟩ := hW; exact t); have k15 := do_box H15.out hT3 HOWN.out (by have := HZ.out; omega); have kop := do_box HOP.out hT3 HOWN.out (by omega); have krs := do_box HRS.out hT3 HOWN.out (by omega); have HS3 : Hid (w3.cell? ⟨w.heap.size + 1, 1, none⟩ = some (.int .i64 to_) ∧ w3.cell? ⟨w.heap.size + 1, 2, none⟩ = some (.int .i64 by_) ∧ w3.cell? ⟨w.heap.size + 1, 3, none⟩ = some (.int .i64 i) ∧  w3.cell? ⟨g15, 0, none⟩ = some (.slice (a2 0) (l2 0) (c2 0)) ∧ w3.cell? ⟨g15, 1, none⟩ = some (.slice (a2 1) (l2 1) (c2 1)) ∧ w3.cell? ⟨g15, 2, none⟩ = some (.slice (a2 2) (l2 2) (c2 2)) ∧ w3.cell? ⟨g15, 3, none⟩ = some (.slice (a2 3) (l2 3) (c2 3)) ∧ w3.cell? ⟨g15, 4, none⟩ = some (.int .i64 m2.full) ∧ w3.cell? ⟨g15, 5, none⟩ = some (.int .i64 m2.long) ∧ w3.cell? ⟨g15, 6, none⟩ = some (.int .i64 m2.moved)) := Lib.hid ⟨kop.cell 1, kop.cell 2, kop.cell 3, k15.cell 0, k15.cell 1, k15.cell 2, k15.cell 3, k15.cell 4, k15.cell 5, k15.cell 6⟩; have r0 := krs.cell 0; have r1 := krs.cell 1; have r2 := krs.cell 2; have r3 := krs.cell 3; have r4 := krs.cell 4; have r5 := krs.cell 5; have r6 := krs.cell 6; have fr := krs.frozen; unfold z7 at r0 r1 r2 r3 r4 r5 r6; have HW := Lib.hid hW; clear hW hT3 k15 kop krs)))
  all_goals
    go_wp2_with fail
    refine bodyPost_ret (v := .tuple #[.agg (nvc a2 l2 c2 m2.full m2.long m2.moved), .bool true]) (by simp [results, Try.results75, go_sem, nvc, r0, r1, r2, r3, r4, r5, r6]) rfl ?_
    refine do_fin HBU.out (by have := HZ.out; omega) HW.out HDU.out HOWN.out ?_ rfl HMK.out
    iterate 7 (refine Touch.setCell ?_ (by simp) _)
    exact Touch.refl _ _
set_option maxRecDepth 100000 in
set_option maxHeartbeats 4000000 in
theorem do_spoil (w : World) (B n : Nat) (s : NS) (a : Nat → Option Addr) (l c : Nat → Nat) (es : Nat → List E) (m : MN) (cm : Int) (to_ by_ i bt oft : Int) (da : Option Addr) (dl dc : Nat)
    (hP : PN w B n s m) (hD : DN w (Own s n) a l c es m) (hm : MOk m cm) (hcm : cm ≤ 900000) (hB : B ≤ w.heap.size) (hi : -9223372036854775808 ≤ i ∧ i ≤ 9223372036854775807) :
    Calls Try.prog 75 #[.pointer (some ⟨n, 0, none⟩), dnv a l c m.full m.long m.moved, .agg (opv 4 to_ by_ i bt da dl dc oft)] w (DoRes w B n s (cm + 200)) := by
  have h0 := do_at (ov := opv 4 to_ by_ i bt da dl dc oft) hP hD hm
  have hown := hP.own_lt
  have H0 := Lib.hid h0
  have pR' := fun (W : World) (h : DoAt w B n s a l c es m cm (opv 4 to_ by_ i bt da dl dc oft) W) => rspoil_any W _ a l c es m cm to_ by_ i bt h.dn hm (fun g hg => hg.elim (h.pn.own_lt g) (fun e => by have := h.res.lt; omega)) hi
  unfold dnv nc at pR'
  have pR := Lib.hid pR'
  have HOWN := Lib.hid hown
  clear h0 pR' hown
  unfold dnv nc opv
  go_enter Try.func75, Try.ntmps75
  go_wp2_with (first | (refine (pR.out _ H0.out).mono ?_; rintro e w2 ⟨a2, l2, c2, es2, rfl, hD2, hB2⟩; unfold dnv nc) | fail)
  obtain ⟨m2, hm2⟩ : ∃ m2, m2 = (m.spoil to_ by_ i bt).1 := ⟨_, rfl⟩
  obtain ⟨q2, hq2⟩ : ∃ q2, q2 = (m.spoil to_ by_ i bt).2 := ⟨_, rfl⟩
  rw [← hm2, ← hq2]
  rw [← hm2] at hD2
  have h2 := H0.out
  have hsz2 := hB2.size
  obtain ⟨g15, hg15⟩ : ∃ g, g = w2.heap.size := ⟨_, rfl⟩
  obtain ⟨U, hU⟩ : ∃ U, U = w2.alloc (.cells (nvc a2 l2 c2 m2.full m2.long m2.moved) 71) := ⟨_, rfl⟩
  unfold nvc at hU
  rw [← hU, ← hg15]
  have hb15 : Blk U g15 71 (nvc a2 l2 c2 m2.full m2.long m2.moved) := by rw [hU, hg15]; exact Blk.new _ _ _
  have hBU2 : Below w2.heap.size w2 U := by rw [hU]; exact (Below.refl _ _).alloc (Nat.le_refl _) _
  have hB0 := hB2.trans (hBU2.mono hB2.size)
  have hBU : Below w.heap.size w U := h2.below.trans (hB0.mono h2.below.size)
  have hop := Blk.below h2.op hB0 h2.op.lt
  have hrs := Blk.below h2.res hB0 h2.res.lt
  have hPU := h2.pn.below hB0
  have hDU := hD2.below hBU2
  have hpS : Calls Try.prog 45 #[.pointer (some ⟨n, 0, none⟩), .int .i64 to_, .int .i64 by_, .int .i64 i, .int .u8 bt] U.drew (SendTo U.drew B n s (m.spoil to_ by_ i bt)) := spoil_any U.drew B n s m cm to_ by_ i bt (hPU.below (below_drewN (Below.refl _ _) 1)) hm hi
  have pS : Hid (Calls Try.prog 45 #[.pointer (some ⟨n, 0, none⟩), .int .i64 to_, .int .i64 by_, .int .i64 i, .int .u8 bt] U.drew (fun e W => e = .returned (.int .i64 q2) ∧ Went U.drew B n s m2 W)) := Lib.hid (by rw [hm2, hq2]; exact hpS)
  have hmk : MOk m2 (cm + 200) := by rw [hm2]; exact (hm.spoil to_ by_ i bt).mono (by omega)
  have o1 : U.cell? ⟨w.heap.size + 1, 1, none⟩ = some (.int .i64 to_) := hop.cell 1
  have o2 : U.cell? ⟨w.heap.size + 1, 2, none⟩ = some (.int .i64 by_) := hop.cell 2
  have o3 : U.cell? ⟨w.heap.size + 1, 3, none⟩ = some (.int .i64 i) := hop.cell 3
  have o4 : U.cell? ⟨w.heap.size + 1, 4, none⟩ = some (.int .u8 bt) := hop.cell 4
  have x0 : U.cell? ⟨g15, 0, none⟩ = some (.slice (a2 0) (l2 0) (c2 0)) := hb15.cell 0
  have x1 : U.cell? ⟨g15, 1, none⟩ = some (.slice (a2 1) (l2 1) (c2 1)) := hb15.cell 1
  have x2 : U.cell? ⟨g15, 2, none⟩ = some (.slice (a2 2) (l2 2) (c2 2)) := hb15.cell 2
  have x3 : U.cell? ⟨g15, 3, none⟩ = some (.slice (a2 3) (l2 3) (c2 3)) := hb15.cell 3
  have x4 : U.cell? ⟨g15, 4, none⟩ = some (.int .i64 m2.full) := hb15.cell 4
  have x5 : U.cell? ⟨g15, 5, none⟩ = some (.int .i64 m2.long) := hb15.cell 5
  have x6 : U.cell? ⟨g15, 6, none⟩ = some (.int .i64 m2.moved) := hb15.cell 6
  have hzU : w.heap.size + 3 ≤ g15 := by have := h2.res.lt; omega
  have hzU2 : g15 < U.heap.size := hb15.lt
  have HBU := Lib.hid hBU
  have HDU := Lib.hid hDU
  have H15 := Lib.hid hb15
  have HOP := Lib.hid hop
  have HRS := Lib.hid hrs
  have HMK := Lib.hid hmk
  have ne1 : ¬ g15 = w.heap.size + 1 + 1 := by omega
  have ne2 : ¬ w.heap.size + 1 + 1 = g15 := by omega
  have HZ := Lib.hid hzU
  clear h2 hB2 hD2 hBU2 hB0 hop hrs hPU hDU hpS hmk hb15 hBU hU hg15 hm2 hq2 hsz2 hzU hP hD
  go_upto_region 17 with fail
  go_region_held3 (fun W' => W'.cell? ⟨w.heap.size + 1, 1, none⟩ = some (.int .i64 to_) ∧ W'.cell? ⟨w.heap.size + 1, 2, none⟩ = some (.int .i64 by_) ∧ W'.cell? ⟨w.heap.size + 1, 3, none⟩ = some (.int .i64 i) ∧ W'.cell? ⟨w.heap.size + 1, 4, none⟩ = some (.int .u8 bt) ∧  W'.cell? ⟨g15, 0, none⟩ = some (.slice (a2 0) (l2 0) (c2 0)) ∧ W'.cell? ⟨g15, 1, none⟩ = some (.slice (a2 1) (l2 1) (c2 1)) ∧ W'.cell? ⟨g15, 2, none⟩ = some (.slice (a2 2) (l2 2) (c2 2)) ∧ W'.cell? ⟨g15, 3, none⟩ = some (.slice (a2 3) (l2 3) (c2 3)) ∧ W'.cell? ⟨g15, 4, none⟩ = some (.int .i64 m2.full) ∧ W'.cell? ⟨g15, 5, none⟩ = some (.int .i64 m2.long) ∧ W'.cell? ⟨g15, 6, none⟩ = some (.int .i64 m2.moved)) (first | go_keep | exact HS3.out) ((first | (go_at_call 45; (with_reducible refine pS.out.mono ?_); rintro e w3 ⟨rfl, hW⟩; have hT3 := (show Touch (Own s n) U.drew w3 from by obtain ⟨_, _, t, _⟩ := hW; exact t); have k15 := do_box H15.out hT3 HOWN.out (by have := HZ.out; omega); have kop := do_box HOP.out hT3 HOWN.out (by omega); have krs := do_box HRS.out hT3 HOWN.out (by omega); have HS3 : Hid (w3.cell? ⟨w.heap.size + 1, 1, none⟩ = some (.int .i64 to_) ∧ w3.cell? ⟨w.heap.size + 1, 2, none⟩ = some (.int .i64 by_) ∧ w3.cell? ⟨w.heap.size + 1, 3, none⟩ = some (.int .i64 i) ∧ w3.cell? ⟨w.heap.size + 1, 4, none⟩ = some (.int .u8 bt) ∧  w3.cell? ⟨g15, 0, none⟩ = some (.slice (a2 0) (l2 0) (c2 0)) ∧ w3.cell? ⟨g15, 1, none⟩ = some (.slice (a2 1) (l2 1) (c2 1)) ∧ w3.cell? ⟨g15, 2, none⟩ = some (.slice (a2 2) (l2 2) (c2 2)) ∧ w3.cell? ⟨g15, 3, none⟩ = some (.slice (a2 3) (l2 3) (c2 3)) ∧ w3.cell? ⟨g15, 4, none⟩ = some (.int .i64 m2.full) ∧ w3.cell? ⟨g15, 5, none⟩ = some (.int .i64 m2.long) ∧ w3.cell? ⟨g15, 6, none⟩ = some (.int .i64 m2.moved)) := Lib.hid ⟨kop.cell 1, kop.cell 2, kop.cell 3, kop.cell 4, k15.cell 0, k15.cell 1, k15.cell 2, k15.cell 3, k15.cell 4, k15.cell 5, k15.cell 6⟩; have r0 := krs.cell 0; have r1 := krs.cell 1; have r2 := krs.cell 2; have r3 := krs.cell 3; have r4 := krs.cell 4; have r5 := krs.cell 5; have r6 := krs.cell 6; have fr := krs.frozen; unfold z7 at r0 r1 r2 r3 r4 r5 r6; have HW := Lib.hid hW; clear hW hT3 k15 kop krs)))
  all_goals
    go_wp2_with fail
    refine bodyPost_ret (v := .tuple #[.agg (nvc a2 l2 c2 m2.full m2.long m2.moved), .bool true]) (by simp [results, Try.results75, go_sem, nvc, r0, r1, r2, r3, r4, r5, r6]) rfl ?_
    refine do_fin HBU.out (by have := HZ.out; omega) HW.out HDU.out HOWN.out ?_ rfl HMK.out
    iterate 7 (refine Touch.setCell ?_ (by simp) _)
    exact Touch.refl _ _
end Go.Proofs.Ytmceaffoffemlaa.Netw
