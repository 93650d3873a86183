/-
  The walk of backstaylaw21.do.
-/
import Derived.Test.YthdppaohagghbaaInputqLaw3
namespace Go.Proofs.Ythdppaohagghbaa.InputqP
open Go.RowKit Go.Sort
set_option linter.all false
open Inputq (QAt fpQ TurnedQ S)
open Ref21 (RAt RTo rval qv L)

/-- The cells of the document's queue. -/
def qc (k u : Value) (y : R) : Array Value := #[k, u, .int .i64 y.fk, .int .i64 y.fu, .int .u16 y.last, .int .i64 y.wrong]
def qz : Array Value := #[.slice none 0 0, .slice none 0 0, .int .i64 0, .int .i64 0, .int .u16 0, .int .i64 0]
def oc (kd i n o : Int) : Array Value := #[.int .i64 kd, .int .u16 i, .int .i64 n, .int .i64 o]
def QB (w : World) (b : Nat) (k u : Value) (y : R) : Prop := Blk w b 37 (qc k u y)
section
variable {w : World} {b : Nat} {k u : Value} {y : R}
theorem QB.cells (h : QB w b k u y) : w.cell? ⟨b, 0, none⟩ = some k ∧ w.cell? ⟨b, 1, none⟩ = some u ∧ w.cell? ⟨b, 2, none⟩ = some (.int .i64 y.fk) ∧ w.cell? ⟨b, 3, none⟩ = some (.int .i64 y.fu) ∧ w.cell? ⟨b, 4, none⟩ = some (.int .u16 y.last) ∧ w.cell? ⟨b, 5, none⟩ = some (.int .i64 y.wrong) :=
  ⟨Blk.cell h 0, Blk.cell h 1, Blk.cell h 2, Blk.cell h 3, Blk.cell h 4, Blk.cell h 5⟩
theorem frs6 {t : TypeId} {cs : Array Value} (h : Blk w b t cs) : w.frozen? ⟨b, 0, none⟩ = false ∧ w.frozen? ⟨b, 1, none⟩ = false ∧ w.frozen? ⟨b, 2, none⟩ = false ∧ w.frozen? ⟨b, 3, none⟩ = false ∧ w.frozen? ⟨b, 4, none⟩ = false ∧ w.frozen? ⟨b, 5, none⟩ = false :=
  ⟨h.frozen 0, h.frozen 1, h.frozen 2, h.frozen 3, h.frozen 4, h.frozen 5⟩
end
theorem cells6 {w : World} {b : Nat} (h : Blk w b 37 qz) : w.cell? ⟨b, 0, none⟩ = some (.slice none 0 0) ∧ w.cell? ⟨b, 1, none⟩ = some (.slice none 0 0) ∧ w.cell? ⟨b, 2, none⟩ = some (.int .i64 0) ∧ w.cell? ⟨b, 3, none⟩ = some (.int .i64 0) ∧ w.cell? ⟨b, 4, none⟩ = some (.int .u16 0) ∧ w.cell? ⟨b, 5, none⟩ = some (.int .i64 0) :=
  ⟨h.cell 0, h.cell 1, h.cell 2, h.cell 3, h.cell 4, h.cell 5⟩
theorem boxes3 (w : World) (k u : Value) (y : R) (kd i n o : Int) : ∃ W, W = ((w.alloc (.cells (qc k u y) 37)).alloc (.cells (oc kd i n o) 42)).alloc (.cells qz 37) ∧
    QB W w.heap.size k u y ∧ Blk W (w.heap.size + 1) 42 (oc kd i n o) ∧ Blk W (w.heap.size + 1 + 1) 37 qz ∧ W.heap.size = w.heap.size + 3 ∧ Below w.heap.size w W := by
  refine ⟨_, rfl, (Blk.alloc (Blk.alloc (Blk.new _ _ _) _) _), ?_, ?_, by simp, (((Below.refl _ w).alloc (Nat.le_refl _) _).alloc (by simp) _).alloc (by simp; omega) _⟩
  · have := Blk.alloc (Blk.new (w.alloc (.cells (qc k u y) 37)) 42 (oc kd i n o)) (.cells qz 37)
    simpa using this
  · have := Blk.new ((w.alloc (.cells (qc k u y) 37)).alloc (.cells (oc kd i n o) 42)) 37 qz
    simpa using this

theorem Bo.heap_eq {B : Nat} {s : S} {x : Q} {k u : Value} {y : R} {W W' : World} (h : Bo B s x k u y W) (hW : W'.heap = W.heap) : Bo B s x k u y W' :=
  ⟨h.q.heap_eq hW, ⟨On.heap_eq h.r.1 hW, On.heap_eq h.r.2 hW⟩, h.far, h.ok, h.ou, by rw [hW]; exact h.size⟩
theorem finish {B : Nat} {s s' : S} {x x' : Q} {k u k' u' : Value} {y y' : R} {w W1 W Wf : World} {f : Value → Value} (h : Bo B s x k u y w) (hz : W1.heap.size = w.heap.size + 3) (hF : Fr W1 s k u s' k' u') (hq : s'.q = s.q) (hb : Bo B s' x' k' u' y' W)
    (hT : Touch (fpQ s) w W) (hW : Touch (fun b => w.heap.size ≤ b ∧ b < w.heap.size + 3) W Wf) : BoTo B s x' k u y' f w (.returned (f (rval k' u' y'))) Wf := by
  have hlt := h.lt3
  refine ⟨s', k', u', rfl, hq, hb.touch hW ?_, hT.trans hW (fun b hb => .inr hb.1), fun b hb => (hF.1 b hb).imp id (by omega), fun b hb => (hF.2.1 b hb).imp id (by omega), fun b hb => (hF.2.2 b hb).imp id (by omega)⟩
  rintro b ⟨h1, h2⟩
  refine ⟨fun hb => ?_, fun hb => ?_, fun hb => ?_⟩
  · rcases hF.1 _ hb with e | e
    · have := hlt.1 _ e; omega
    · omega
  · rcases hF.2.1 _ hb with e | e
    · have := hlt.2.1 _ e; omega
    · omega
  · rcases hF.2.2 _ hb with e | e
    · have := hlt.2.2 _ e; omega
    · omega

def DoTo (B : Nat) (s : S) (k u : Value) (y : R) (w : World) (e : Ending) (w' : World) : Prop :=
  ∃ x' y', Rel x' y' ∧ y'.K.length ≤ y.K.length + 300 ∧ y'.U.length ≤ y.U.length + 300 ∧ BoTo B s x' k u y' (fun q => .tuple #[q, .bool true]) w e w'
def ov (kd i n o : Int) : Value := .agg (oc kd i n o)

set_option maxRecDepth 100000 in
set_option maxHeartbeats 4000000 in
/-- Add. -/
theorem do0 {B : Nat} {s : S} {x : Q} {y : R} (w : World) (a b : Option Addr) (c d : Nat) (i n o : Int) (h : Bo B s x (.slice a y.K.length c) (.slice b y.U.length d) y w) (hr : Rel x y) (hk : y.K.length ≤ 400000) (hu : y.U.length ≤ 400000) :
    Calls Try.prog 81 #[.pointer (some ⟨s.q, 0, none⟩), rval (.slice a y.K.length c) (.slice b y.U.length d) y, ov 0 i n o] w fun e w' => DoTo B s (.slice a y.K.length c) (.slice b y.U.length d) y w e w' := by
  have okR := hr.okR (by omega) (by omega)
  have ok := hr.ok (by omega) (by omega)
  obtain ⟨W1, hW1, hbox, hop, hres, hz1, hB1⟩ := boxes3 w (.slice a y.K.length c) (.slice b y.U.length d) y 0 i n o
  have h1 := h.bel hB1
  have p1 := Ref21.add_any W1 a b c d y i h1.r okR
  have hlt := h.lt3
  have hs0 := h.size
  obtain ⟨k0, k1, k2, k3, k4, k5⟩ := hbox.cells
  have o0 := hop.cell 0
  have o1 := hop.cell 1
  unfold rval qv at p1
  have p1 := Lib.hid p1
  unfold rval qv ov oc
  unfold qc oc qz at hW1
  dsimp only [oc] at o0 o1
  go_enter Try.func81, Try.ntmps81
  go_upto_region 1 with fail
  rw [← hW1]
  clear hW1
  go_wp2_with fail
  refine p1.out.mono ?_
  intro e W2 hR
  obtain ⟨k', u', rfl, h2, hB2, hF2⟩ := h1.ref hR
  obtain ⟨a', c', b', d', rfl, rfl⟩ := h2.slices
  dsimp only [rval, qv]
  have hop2 := hop.below hB2 hop.lt
  have hres2 := hres.below hB2 hres.lt
  obtain ⟨y1, hy1⟩ : ∃ y1, y1 = Ref21.addR y i := ⟨_, rfl⟩
  rw [← hy1] at h2 hF2 ⊢
  have HY := Lib.hid hy1
  clear hy1
  have h3 := h2.bel ((Below.refl _ W2).alloc (Nat.le_refl _) (.cells (qc (.slice a' y1.K.length c') (.slice b' y1.U.length d') y1) 37))
  have hn3 : QB (W2.alloc (.cells (qc (.slice a' y1.K.length c') (.slice b' y1.U.length d') y1) 37)) W2.heap.size (.slice a' y1.K.length c') (.slice b' y1.U.length d') y1 := Blk.new _ _ _
  have hop3 := hop2.alloc (.cells (qc (.slice a' y1.K.length c') (.slice b' y1.U.length d') y1) 37)
  have hres3 := hres2.alloc (.cells (qc (.slice a' y1.K.length c') (.slice b' y1.U.length d') y1) 37)
  have pa := Lib.hid (fun W (hW : W.heap = (W2.alloc (.cells (qc (.slice a' y1.K.length c') (.slice b' y1.U.length d') y1) 37)).heap) => Inputq.add_any W s x i (h3.q.heap_eq hW) ok)
  rw [hr.kend] at pa
  unfold qc at h3 hn3 hop3 hres3 pa
  have T3 : Touch (fpQ s) w W2 := ((Touch.of_below hB1).trans (Touch.of_below (S := noB) hB2) (fun k hk => hk.elim))
  clear k0 k1 k2 k3 k4 k5 o0 o1
  have hlt2 := h2.lt3
  have hno := Lib.hid (show ∀ b, fpQ s b → b < w.heap.size from hlt.1)
  have o1 := hop3.cell 1
  dsimp only [oc] at o1
  obtain ⟨k0, k1, k2, k3, k4, k5⟩ := hn3.cells
  have hz2 := hB2.size
  have ne1 : ¬ W2.heap.size = w.heap.size + 1 + 1 := by omega
  have ne2 : ¬ w.heap.size + 1 + 1 = W2.heap.size := by omega
  go_wp2_with fail
  go_region_held3 (fun w' => w'.cell? ⟨W2.heap.size, 0, none⟩ = some (.slice a' y1.K.length c') ∧ w'.cell? ⟨W2.heap.size, 1, none⟩ = some (.slice b' y1.U.length d') ∧ w'.cell? ⟨W2.heap.size, 2, none⟩ = some (.int .i64 y1.fk) ∧ w'.cell? ⟨W2.heap.size, 3, none⟩ = some (.int .i64 y1.fu) ∧ w'.cell? ⟨W2.heap.size, 4, none⟩ = some (.int .u16 y1.last) ∧ w'.cell? ⟨W2.heap.size, 5, none⟩ = some (.int .i64 y1.wrong) ∧ w'.cell? ⟨w.heap.size + 1, 1, none⟩ = some (.int .u16 i)) (first | go_keep | exact ⟨d0, d1, d2, d3, d4, d5, d6⟩ | (go_split_ands; refine ⟨?_, ?_, ?_, ?_, ?_, ?_, ?_⟩ <;> first | go_keep | trace_state))
    ((go_at_call 17; refine (pa.out _ (by rfl)).mono ?_; rintro e W4 ⟨rfl, hT4⟩; obtain ⟨s4, hq4, h4, T4, F4⟩ := (Bo.heap_eq h3 (by rfl)).turn hT4; have hN4 := Blk.touch (Blk.heap_eq hn3 (by rfl)) T4 (fun e => by have := hlt2.1 _ e; omega); have hop4 := Blk.touch (Blk.heap_eq hop3 (by rfl)) T4 (fun e => by have := hno.out _ e; omega); have hres4 := Blk.touch (Blk.heap_eq hres3 (by rfl)) T4 (fun e => by have := hno.out _ e; omega); obtain ⟨d0, d1, d2, d3, d4, d5⟩ := QB.cells hN4; have d6 := hop4.cell 1; dsimp only [oc] at d6; obtain ⟨f0, f1, f2, f3, f4, f5⟩ := frs6 hres4; obtain ⟨g0, g1, g2, g3, g4, g5⟩ := cells6 hres4))
  have HY' := HY.out
  subst HY'
  go_wp2_with fail
  refine bodyPost_ret (v := .tuple #[rval (.slice a' (Ref21.addR y i).K.length c') (.slice b' (Ref21.addR y i).U.length d') (Ref21.addR y i), .bool true]) (by simp [results, rval, qv, Try.results81, go_sem, g0, g1, g2, g3, g4, g5]) rfl ?_
  have hTT := (T3.alloc (.cells #[.slice a' (Ref21.addR y i).K.length c', .slice b' (Ref21.addR y i).U.length d', .int .i64 (Ref21.addR y i).fk, .int .i64 (Ref21.addR y i).fu, .int .u16 (Ref21.addR y i).last, .int .i64 (Ref21.addR y i).wrong] 37)).trans (w2 := W4) (S' := fpQ s) ⟨T4.os, T4.tape, T4.output, T4.size, T4.block⟩ (fun k hk => .inl hk)
  have hFF := Fr.trans hF2 F4 (by simp; omega)
  refine ⟨_, _, hr.add i, by simp [Ref21.addR] <;> omega, by simp [Ref21.addR] <;> omega, finish h hz1 hFF hq4 h4 hTT ?_⟩
  clear hTT hFF h4 T4 F4 hN4 hop4 hres4
  repeat (refine Touch.setCell ?_ (Or.inl (by dsimp only; omega)) _)
  exact Touch.refl _ _

theorem useR_len (y : R) (n : Int) : (Ref21.useR y n).K.length = y.K.length ∧ (Ref21.useR y n).U.length ≤ y.U.length + 1 := by
  unfold Ref21.useR
  split
  · split
    · simp
    · split <;> simp
  · simp

set_option maxRecDepth 100000 in
set_option maxHeartbeats 4000000 in
theorem do1 {B : Nat} {s : S} {x : Q} {y : R} (w : World) (a b : Option Addr) (c d : Nat) (i n o : Int) (h : Bo B s x (.slice a y.K.length c) (.slice b y.U.length d) y w) (hr : Rel x y) (hk : y.K.length ≤ 400000) (hu : y.U.length ≤ 400000) (hn : n ≤ 9223372036854775807) :
    Calls Try.prog 81 #[.pointer (some ⟨s.q, 0, none⟩), rval (.slice a y.K.length c) (.slice b y.U.length d) y, ov 1 i n o] w fun e w' => DoTo B s (.slice a y.K.length c) (.slice b y.U.length d) y w e w' := by
  have okR := hr.okR (by omega) (by omega)
  have ok := hr.ok (by omega) (by omega)
  obtain ⟨W1, hW1, hbox, hop, hres, hz1, hB1⟩ := boxes3 w (.slice a y.K.length c) (.slice b y.U.length d) y 1 i n o
  have h1 := h.bel hB1
  have p1 := luse_any W1 a b c d (n) h1 hr (by omega) (by omega) (by omega)
  unfold rval qv at p1
  have p1 := Lib.hid p1
  have hlt := h.lt3
  have hno := Lib.hid (show ∀ b, fpQ s b → b < w.heap.size from hlt.1)
  have hs0 := h.size
  obtain ⟨k0, k1, k2, k3, k4, k5⟩ := hbox.cells
  obtain ⟨j0, j1, j2, j3, j4, j5⟩ := frs6 hbox
  have o0 := hop.cell 0
  have o1 := hop.cell 1
  have o2 := hop.cell 2
  have o3 := hop.cell 3
  unfold rval qv ov oc
  unfold qc oc qz at hW1
  dsimp only [oc] at o0 o1 o2 o3
  go_enter Try.func81, Try.ntmps81
  go_upto_region 1 with fail
  rw [← hW1]
  clear hW1
  go_wp2_with fail
  refine p1.out.mono ?_
  rintro e W2 ⟨s2, k', u', rfl, hq2, h2, T2, F2⟩
  obtain ⟨a', c', b', d', rfl, rfl⟩ := h2.slices
  dsimp only [rval, qv]
  have hres2 := hres.touch T2 (fun e => by have := hno.out _ e; omega)
  obtain ⟨f0, f1, f2, f3, f4, f5⟩ := frs6 hres2
  obtain ⟨g0, g1, g2, g3, g4, g5⟩ := cells6 hres2
  obtain ⟨y1, hy1⟩ : ∃ y1, y1 = Ref21.useR y (n) := ⟨_, rfl⟩
  rw [← hy1] at h2 F2 ⊢
  have HY := Lib.hid hy1
  clear hy1
  go_wp2_with fail
  refine bodyPost_ret (v := .tuple #[rval (.slice a' y1.K.length c') (.slice b' y1.U.length d') y1, .bool true]) (by simp [results, rval, qv, Try.results81, go_sem, g0, g1, g2, g3, g4, g5]) rfl ?_
  have hTT : Touch (fpQ s) w W2 := (Touch.of_below hB1).trans T2 (fun k hk => .inl hk)
  have e1 := HY.out
  subst e1
  have ul := useR_len y (n)
  refine ⟨_, _, hr.use (n), by omega, by omega, finish h hz1 F2 hq2 h2 hTT ?_⟩
  clear hTT h2 T2 F2 hres2
  repeat (refine Touch.setCell ?_ (Or.inl (by dsimp only; omega)) _)
  exact Touch.refl _ _

set_option maxRecDepth 100000 in
set_option maxHeartbeats 4000000 in
theorem do2 {B : Nat} {s : S} {x : Q} {y : R} (w : World) (a b : Option Addr) (c d : Nat) (i n o : Int) (h : Bo B s x (.slice a y.K.length c) (.slice b y.U.length d) y w) (hr : Rel x y) (hk : y.K.length ≤ 400000) (hu : y.U.length ≤ 400000) (hn : n ≤ 9223372036854775807) :
    Calls Try.prog 81 #[.pointer (some ⟨s.q, 0, none⟩), rval (.slice a y.K.length c) (.slice b y.U.length d) y, ov 2 i n o] w fun e w' => DoTo B s (.slice a y.K.length c) (.slice b y.U.length d) y w e w' := by
  have okR := hr.okR (by omega) (by omega)
  have ok := hr.ok (by omega) (by omega)
  obtain ⟨W1, hW1, hbox, hop, hres, hz1, hB1⟩ := boxes3 w (.slice a y.K.length c) (.slice b y.U.length d) y 2 i n o
  have h1 := h.bel hB1
  have p1 := luse_any W1 a b c d ((y.U.length : Int)) h1 hr (by omega) (by omega) (by omega)
  unfold rval qv at p1
  have p1 := Lib.hid p1
  have hlt := h.lt3
  have hno := Lib.hid (show ∀ b, fpQ s b → b < w.heap.size from hlt.1)
  have hs0 := h.size
  obtain ⟨k0, k1, k2, k3, k4, k5⟩ := hbox.cells
  obtain ⟨j0, j1, j2, j3, j4, j5⟩ := frs6 hbox
  have o0 := hop.cell 0
  have o1 := hop.cell 1
  have o2 := hop.cell 2
  have o3 := hop.cell 3
  unfold rval qv ov oc
  unfold qc oc qz at hW1
  dsimp only [oc] at o0 o1 o2 o3
  go_enter Try.func81, Try.ntmps81
  go_upto_region 1 with fail
  rw [← hW1]
  clear hW1
  go_wp2_with fail
  refine p1.out.mono ?_
  rintro e W2 ⟨s2, k', u', rfl, hq2, h2, T2, F2⟩
  obtain ⟨a', c', b', d', rfl, rfl⟩ := h2.slices
  dsimp only [rval, qv]
  have hres2 := hres.touch T2 (fun e => by have := hno.out _ e; omega)
  obtain ⟨f0, f1, f2, f3, f4, f5⟩ := frs6 hres2
  obtain ⟨g0, g1, g2, g3, g4, g5⟩ := cells6 hres2
  obtain ⟨y1, hy1⟩ : ∃ y1, y1 = Ref21.useR y ((y.U.length : Int)) := ⟨_, rfl⟩
  rw [← hy1] at h2 F2 ⊢
  have HY := Lib.hid hy1
  clear hy1
  go_wp2_with fail
  refine bodyPost_ret (v := .tuple #[rval (.slice a' y1.K.length c') (.slice b' y1.U.length d') y1, .bool true]) (by simp [results, rval, qv, Try.results81, go_sem, g0, g1, g2, g3, g4, g5]) rfl ?_
  have hTT : Touch (fpQ s) w W2 := (Touch.of_below hB1).trans T2 (fun k hk => .inl hk)
  have e1 := HY.out
  subst e1
  have ul := useR_len y ((y.U.length : Int))
  refine ⟨_, _, hr.use ((y.U.length : Int)), by omega, by omega, finish h hz1 F2 hq2 h2 hTT ?_⟩
  clear hTT h2 T2 F2 hres2
  repeat (refine Touch.setCell ?_ (Or.inl (by dsimp only; omega)) _)
  exact Touch.refl _ _

set_option maxRecDepth 100000 in
set_option maxHeartbeats 4000000 in
theorem do3 {B : Nat} {s : S} {x : Q} {y : R} (w : World) (a b : Option Addr) (c d : Nat) (i n o : Int) (h : Bo B s x (.slice a y.K.length c) (.slice b y.U.length d) y w) (hr : Rel x y) (hk : y.K.length ≤ 400000) (hu : y.U.length ≤ 400000) (hn : n ≤ 9223372036854775807) :
    Calls Try.prog 81 #[.pointer (some ⟨s.q, 0, none⟩), rval (.slice a y.K.length c) (.slice b y.U.length d) y, ov 3 i n o] w fun e w' => DoTo B s (.slice a y.K.length c) (.slice b y.U.length d) y w e w' := by
  have okR := hr.okR (by omega) (by omega)
  have ok := hr.ok (by omega) (by omega)
  obtain ⟨W1, hW1, hbox, hop, hres, hz1, hB1⟩ := boxes3 w (.slice a y.K.length c) (.slice b y.U.length d) y 3 i n o
  have h1 := h.bel hB1
  have p1 := Lib.hid (Inputq.drop_any W1 s x n h1.q ok hn)
  have hlt := h.lt3
  have hno := Lib.hid (show ∀ b, fpQ s b → b < w.heap.size from hlt.1)
  have hs0 := h.size
  obtain ⟨k0, k1, k2, k3, k4, k5⟩ := hbox.cells
  obtain ⟨j0, j1, j2, j3, j4, j5⟩ := frs6 hbox
  have o0 := hop.cell 0
  have o1 := hop.cell 1
  have o2 := hop.cell 2
  have o3 := hop.cell 3
  unfold rval qv ov oc
  unfold qc oc qz at hW1
  dsimp only [oc] at o0 o1 o2 o3
  go_enter Try.func81, Try.ntmps81
  go_upto_region 1 with fail
  rw [← hW1]
  clear hW1
  go_wp2_with fail
  refine p1.out.mono ?_
  rintro e W2 ⟨rfl, hT2⟩
  obtain ⟨s2, hq2, h2, T2, F2⟩ := h1.turn hT2
  have hres2 := hres.touch T2 (fun e => by have := hno.out _ e; omega)
  have hbox2 : QB W2 w.heap.size _ _ y := Blk.touch hbox T2 (fun e => by have := hno.out _ e; omega)
  have hop2 := hop.touch T2 (fun e => by have := hno.out _ e; omega)
  clear k0 k1 k2 k3 k4 k5 o0 o1 o2 o3 j0 j1 j2 j3 j4 j5
  have o2 := hop2.cell 2
  dsimp only [oc] at o2
  obtain ⟨k0, k1, k2, k3, k4, k5⟩ := hbox2.cells
  have p2 := Ref21.drop_any W2 a b c d y n h2.r
  unfold rval qv at p2
  have p2 := Lib.hid p2
  go_wp2_with fail
  refine p2.out.mono ?_
  intro e W3 hR
  obtain ⟨k', u', rfl, h3, hB3, F3⟩ := h2.ref hR
  obtain ⟨a', c', b', d', rfl, rfl⟩ := h3.slices
  dsimp only [rval, qv, id]
  have hres3 := hres2.below hB3 hres2.lt
  obtain ⟨y1, hy1⟩ : ∃ y1, y1 = Ref21.dropR y n := ⟨_, rfl⟩
  have e1 : y1.K.length = y.K.length := by rw [hy1]; rfl
  have e2 : y1.U.length = y.U.length := by rw [hy1]; rfl
  rw [← hy1] at h3 F3 ⊢
  have HY := Lib.hid hy1
  have E1 := Lib.hid e1
  have E2 := Lib.hid e2
  clear hy1 e1 e2
  obtain ⟨f0, f1, f2, f3, f4, f5⟩ := frs6 hres3
  obtain ⟨g0, g1, g2, g3, g4, g5⟩ := cells6 hres3
  go_wp2_with fail
  refine bodyPost_ret (v := .tuple #[rval (.slice a' y1.K.length c') (.slice b' y1.U.length d') y1, .bool true]) (by simp [results, rval, qv, Try.results81, go_sem, g0, g1, g2, g3, g4, g5]) rfl ?_
  have hTT : Touch (fpQ s) w W3 := ((Touch.of_below hB1).trans T2 (fun k hk => .inl hk)).trans (Touch.of_below (S := noB) hB3) (fun k hk => hk.elim)
  have e1 := HY.out
  have hl1 := E1.out
  have hl2 := E2.out
  refine ⟨_, y1, by rw [e1]; exact hr.drop n, by omega, by omega, finish h hz1 (F2.trans F3 T2.size) hq2 h3 hTT ?_⟩
  clear hTT h3 T2 F2 hres2 hres3 F3
  repeat (refine Touch.setCell ?_ (Or.inl (by dsimp only; omega)) _)
  exact Touch.refl _ _

set_option maxRecDepth 100000 in
set_option maxHeartbeats 4000000 in
theorem do4 {B : Nat} {s : S} {x : Q} {y : R} (w : World) (a b : Option Addr) (c d : Nat) (i n o : Int) (h : Bo B s x (.slice a y.K.length c) (.slice b y.U.length d) y w) (hr : Rel x y) (hk : y.K.length ≤ 400000) (hu : y.U.length ≤ 400000) (hn : n ≤ 9223372036854775807) :
    Calls Try.prog 81 #[.pointer (some ⟨s.q, 0, none⟩), rval (.slice a y.K.length c) (.slice b y.U.length d) y, ov 4 i n o] w fun e w' => DoTo B s (.slice a y.K.length c) (.slice b y.U.length d) y w e w' := by
  have okR := hr.okR (by omega) (by omega)
  have ok := hr.ok (by omega) (by omega)
  obtain ⟨W1, hW1, hbox, hop, hres, hz1, hB1⟩ := boxes3 w (.slice a y.K.length c) (.slice b y.U.length d) y 4 i n o
  have h1 := h.bel hB1
  have p1 := Lib.hid (Inputq.right_any W1 s x h1.q)
  have hlt := h.lt3
  have hno := Lib.hid (show ∀ b, fpQ s b → b < w.heap.size from hlt.1)
  have hs0 := h.size
  obtain ⟨k0, k1, k2, k3, k4, k5⟩ := hbox.cells
  obtain ⟨j0, j1, j2, j3, j4, j5⟩ := frs6 hbox
  have o0 := hop.cell 0
  have o1 := hop.cell 1
  have o2 := hop.cell 2
  have o3 := hop.cell 3
  unfold rval qv ov oc
  unfold qc oc qz at hW1
  dsimp only [oc] at o0 o1 o2 o3
  go_enter Try.func81, Try.ntmps81
  go_upto_region 1 with fail
  rw [← hW1]
  clear hW1
  go_wp2_with fail
  refine p1.out.mono ?_
  rintro e W2 ⟨rfl, hT2⟩
  obtain ⟨s2, hq2, h2, T2, F2⟩ := h1.turn hT2
  have hres2 := hres.touch T2 (fun e => by have := hno.out _ e; omega)
  have hbox2 : QB W2 w.heap.size _ _ y := Blk.touch hbox T2 (fun e => by have := hno.out _ e; omega)
  clear k0 k1 k2 k3 k4 k5 o0 o1 o2 o3 j0 j1 j2 j3 j4 j5
  obtain ⟨k0, k1, k2, k3, k4, k5⟩ := hbox2.cells
  have j5 := hbox2.frozen 5
  obtain ⟨f0, f1, f2, f3, f4, f5⟩ := frs6 hres2
  obtain ⟨g0, g1, g2, g3, g4, g5⟩ := cells6 hres2
  go_wp2_with fail
  refine bodyPost_ret (v := .tuple #[rval (.slice a y.K.length c) (.slice b y.U.length d) { y with wrong := -1 }, .bool true]) (by simp [results, rval, qv, Try.results81, go_sem, g0, g1, g2, g3, g4, g5]) rfl ?_
  have hTT : Touch (fpQ s) w W2 := (Touch.of_below hB1).trans T2 (fun k hk => .inl hk)
  refine ⟨_, { y with wrong := -1 }, hr.right, by simp, by simp, finish h hz1 F2 hq2 ⟨h2.q, h2.r, h2.far, h2.ok, h2.ou, h2.size⟩ hTT ?_⟩
  clear hTT h2 T2 F2 hres2
  repeat (refine Touch.setCell ?_ (Or.inl (by dsimp only; omega)) _)
  exact Touch.refl _ _

set_option maxRecDepth 100000 in
set_option maxHeartbeats 4000000 in
theorem do7 {B : Nat} {s : S} {x : Q} {y : R} (w : World) (a b : Option Addr) (c d : Nat) (kd i n o : Int) (h : Bo B s x (.slice a y.K.length c) (.slice b y.U.length d) y w) (hr : Rel x y) (hk : y.K.length ≤ 400000) (hu : y.U.length ≤ 400000) (hkd : kd ≠ 0 ∧ kd ≠ 1 ∧ kd ≠ 2 ∧ kd ≠ 3 ∧ kd ≠ 4 ∧ kd ≠ 5 ∧ kd ≠ 6) :
    Calls Try.prog 81 #[.pointer (some ⟨s.q, 0, none⟩), rval (.slice a y.K.length c) (.slice b y.U.length d) y, ov kd i n o] w fun e w' => DoTo B s (.slice a y.K.length c) (.slice b y.U.length d) y w e w' := by
  have okR := hr.okR (by omega) (by omega)
  have ok := hr.ok (by omega) (by omega)
  obtain ⟨W1, hW1, hbox, hop, hres, hz1, hB1⟩ := boxes3 w (.slice a y.K.length c) (.slice b y.U.length d) y kd i n o
  have h1 := h.bel hB1
  have n0 : (kd == 0) = false := by simpa using hkd.1
  have n1 : (kd == 1) = false := by simpa using hkd.2.1
  have n2 : (kd == 2) = false := by simpa using hkd.2.2.1
  have n3 : (kd == 3) = false := by simpa using hkd.2.2.2.1
  have n4 : (kd == 4) = false := by simpa using hkd.2.2.2.2.1
  have n5 : (kd == 5) = false := by simpa using hkd.2.2.2.2.2.1
  have n6 : (kd == 6) = false := by simpa using hkd.2.2.2.2.2.2
  clear hkd
  have hlt := h.lt3
  have hno := Lib.hid (show ∀ b, fpQ s b → b < w.heap.size from hlt.1)
  have hs0 := h.size
  obtain ⟨k0, k1, k2, k3, k4, k5⟩ := hbox.cells
  obtain ⟨j0, j1, j2, j3, j4, j5⟩ := frs6 hbox
  have o0 := hop.cell 0
  have o1 := hop.cell 1
  have o2 := hop.cell 2
  have o3 := hop.cell 3
  unfold rval qv ov oc
  unfold qc oc qz at hW1
  dsimp only [oc] at o0 o1 o2 o3
  go_enter Try.func81, Try.ntmps81
  go_upto_region 1 with fail
  rw [← hW1]
  clear hW1
  obtain ⟨f0, f1, f2, f3, f4, f5⟩ := frs6 hres
  obtain ⟨g0, g1, g2, g3, g4, g5⟩ := cells6 hres
  go_wp2_with fail
  refine bodyPost_ret (v := .tuple #[rval (.slice a y.K.length c) (.slice b y.U.length d) y, .bool true]) (by simp [results, rval, qv, Try.results81, go_sem, g0, g1, g2, g3, g4, g5]) rfl ?_
  refine ⟨_, y, hr, by omega, by omega, finish h hz1 (Fr.refl _ _ _ _) rfl h1 (Touch.of_below hB1) ?_⟩
  repeat (refine Touch.setCell ?_ (Or.inl (by dsimp only; omega)) _)
  exact Touch.refl _ _
end Go.Proofs.Ythdppaohagghbaa.InputqP
