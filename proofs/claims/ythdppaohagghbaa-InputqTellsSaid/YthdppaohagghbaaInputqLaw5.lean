/-
  The walk of backstaylaw21.do: the two loops; and all cases as one.
-/
import Derived.Test.YthdppaohagghbaaInputqLaw4
namespace Go.Proofs.Ythdppaohagghbaa.InputqP
open Go.RowKit Go.Sort
set_option linter.all false
open Inputq (QAt fpQ TurnedQ S)
open Ref21 (RAt RTo rval qv L)

/-- What a round of the loops carries. -/
def DoInv (B : Nat) (s : S) (k u : Value) (y : R) (w W1 : World) (kd i n o : Int) (j : Nat) (wr : World) : Prop :=
  ∃ s' k' u' x' y', Rel x' y' ∧ y'.K.length ≤ y.K.length + j ∧ y'.U.length ≤ y.U.length + j ∧ s'.q = s.q ∧ Bo B s' x' k' u' y' wr ∧ Touch (fpQ s) w wr ∧ Fr W1 s k u s' k' u' ∧
    QB wr w.heap.size k' u' y' ∧ Blk wr (w.heap.size + 1) 42 (oc kd i n o) ∧ Blk wr (w.heap.size + 1 + 1) 37 qz
theorem DoInv.next {B : Nat} {s s' s'' : S} {x'' : Q} {k u k' u' k'' u'' : Value} {y y'' : R} {w W1 wr W Wf : World} {kd i n o : Int} {j : Nat} (hz : W1.heap.size = w.heap.size + 3) (hlt : (∀ b, fpQ s b → b < w.heap.size) ∧ (∀ b, k.ownBlock = some b → b < w.heap.size) ∧ (∀ b, u.ownBlock = some b → b < w.heap.size))
    (hT : Touch (fpQ s) w wr) (hF : Fr W1 s k u s' k' u') (hr : Rel x'' y'') (hK : y''.K.length ≤ y.K.length + (j + 1)) (hU : y''.U.length ≤ y.U.length + (j + 1)) (hq : s''.q = s.q) (hb : Bo B s'' x'' k'' u'' y'' W)
    (hT2 : Touch (fpQ s') wr W) (hF2 : Fr wr s' k' u' s'' k'' u'') (hw : W1.heap.size ≤ wr.heap.size) (hW : Touch (fun b => b = w.heap.size) W Wf) (h1 : QB Wf w.heap.size k'' u'' y'')
    (h2 : Blk W (w.heap.size + 1) 42 (oc kd i n o)) (h3 : Blk W (w.heap.size + 1 + 1) 37 qz) : DoInv B s k u y w W1 kd i n o (j + 1) Wf := by
  have hFF := hF.trans hF2 hw
  have hTw : Touch (fpQ s) w W := hT.trans hT2 (fun b hb => (hF.1 b hb).imp id (by omega))
  refine ⟨s'', k'', u'', x'', y'', hr, hK, hU, hq, hb.touch hW ?_, hTw.trans hW (fun b hb => .inr (by omega)), hFF, h1, h2.touch hW (show ¬ w.heap.size + 1 = w.heap.size by omega), h3.touch hW (show ¬ w.heap.size + 1 + 1 = w.heap.size by omega)⟩
  rintro b rfl
  refine ⟨fun hb => ?_, fun hb => ?_, fun hb => ?_⟩
  · rcases hFF.1 _ hb with e | e
    · have := hlt.1 _ e; omega
    · omega
  · rcases hFF.2.1 _ hb with e | e
    · have := hlt.2.1 _ e; omega
    · omega
  · rcases hFF.2.2 _ hb with e | e
    · have := hlt.2.2 _ e; omega
    · omega

theorem QB.set6 {w : World} {b : Nat} {k u : Value} {y : R} (h : QB w b k u y) (k' u' : Value) (y' : R) : QB ((((((w.setCell ⟨b, 0, none⟩ k').setCell ⟨b, 1, none⟩ u').setCell ⟨b, 2, none⟩ (.int .i64 y'.fk)).setCell ⟨b, 3, none⟩ (.int .i64 y'.fu)).setCell ⟨b, 4, none⟩ (.int .u16 y'.last)).setCell ⟨b, 5, none⟩ (.int .i64 y'.wrong)) b k' u' y' :=
  (((((Blk.set_ h 0 k').set_ 1 u').set_ 2 (.int .i64 y'.fk)).set_ 3 (.int .i64 y'.fu)).set_ 4 (.int .u16 y'.last)).set_ 5 (.int .i64 y'.wrong)

set_option maxRecDepth 100000 in
set_option maxHeartbeats 8000000 in
theorem do5 {B : Nat} {s : S} {x : Q} {y : R} (w : World) (a b : Option Addr) (c d : Nat) (i n o : Int) (h : Bo B s x (.slice a y.K.length c) (.slice b y.U.length d) y w) (hr : Rel x y) (hk : y.K.length ≤ 400000) (hu : y.U.length ≤ 400000) (hn : n ≤ 9223372036854775807) :
    Calls Try.prog 81 #[.pointer (some ⟨s.q, 0, none⟩), rval (.slice a y.K.length c) (.slice b y.U.length d) y, ov 5 i n o] w fun e w' => DoTo B s (.slice a y.K.length c) (.slice b y.U.length d) y w e w' := by
  have okR := hr.okR (by omega) (by omega)
  have ok := hr.ok (by omega) (by omega)
  obtain ⟨W1, hW1, hbox, hop, hres, hz1, hB1⟩ := boxes3 w (.slice a y.K.length c) (.slice b y.U.length d) y 5 i n o
  have h1 := h.bel hB1
  have hlt := h.lt3
  have hno := Lib.hid (show ∀ b, fpQ s b → b < w.heap.size from hlt.1)
  have hs0 := h.size
  obtain ⟨k0, k1, k2, k3, k4, k5⟩ := hbox.cells
  obtain ⟨j0, j1, j2, j3, j4, j5⟩ := frs6 hbox
  have o0 := hop.cell 0
  have o1 := hop.cell 1
  have o2 := hop.cell 2
  have o3 := hop.cell 3
  unfold rval qv ov oc
  unfold qc oc qz at hW1
  dsimp only [oc] at o0 o1 o2 o3
  go_enter Try.func81, Try.ntmps81
  go_upto_region 1 with fail
  rw [← hW1]
  clear hW1
  go_wp2_with fail
  go_loopw [8, 11] (fun okv iv wr => ∃ j : Nat, j ≤ 300 ∧ iv = .int .i64 j ∧ okv = .bool true ∧ DoInv B s (.slice a y.K.length c) (.slice b y.U.length d) y w W1 5 i n o j wr) (fun _ iv _ => 300 - (intOf iv).toNat)
  case atStart => exact ⟨0, by omega, rfl, rfl, s, _, _, x, y, hr, by omega, by omega, rfl, h1, Touch.of_below hB1, Fr.refl _ _ _ _, hbox, hop, hres⟩
  case round =>
    clear k0 k1 k2 k3 k4 k5 o0 o1 o2 o3 j0 j1 j2 j3 j4 j5 h1 hbox hop hres ok okR
    obtain ⟨j, hj, rfl, rfl, s1, k1', u1', x1, y1, hr1, hK1, hU1, hq1, h1, T1, F1, hbox, hop, hres⟩ := hrel
    have hK1' := Lib.hid hK1
    have hU1' := Lib.hid hU1
    have okR := hr1.okR (by omega) (by omega)
    have ok := hr1.ok (by omega) (by omega)
    obtain ⟨a1, c1, b1, d1, rfl, rfl⟩ := h1.slices
    obtain ⟨k0, k1, k2, k3, k4, k5⟩ := hbox.cells
    obtain ⟨j0, j1, j2, j3, j4, j5⟩ := frs6 hbox
    have o0 := hop.cell 0
    have o1 := hop.cell 1
    have o2 := hop.cell 2
    have o3 := hop.cell 3
    dsimp only [oc] at o0 o1 o2 o3
    have hlt1 := h1.lt3
    have hz3 := T1.size
    have hzz := hB1.size
    have hw1 : W1.heap.size ≤ wr.heap.size := by
      have := hres.lt
      omega
    by_cases hgo : (j : Int) < o ∧ j < 300
    · obtain ⟨g1, g2⟩ := hgo
      have hjo : decide ((j : Int) < o) = true := by simpa using g1
      have p1 := Ref21.add_any wr a1 b1 c1 d1 y1 i h1.r okR
      unfold rval qv at p1
      have p1 := Lib.hid p1
      have HQ1 := Lib.hid hq1
      have nT : ∀ b, w.heap.size ≤ b → b < w.heap.size + 3 → ¬ fpQ s1 b := fun b h1 h2 hb => (F1.1 b hb).elim (fun e => by have := hno.out _ e; omega) (fun e => by omega)
      have nT := Lib.hid nT
      go_wp2_with fail
      refine p1.out.mono ?_
      intro e W2 hR
      obtain ⟨k', u', rfl, h2, hB2, F2⟩ := h1.ref hR
      obtain ⟨a', c', b', d', rfl, rfl⟩ := h2.slices
      dsimp only [rval, qv]
      have hbox2 : QB W2 w.heap.size _ _ y1 := Blk.below hbox hB2 (Blk.lt hbox)
      have hop2 := hop.below hB2 hop.lt
      have hres2 := hres.below hB2 hres.lt
      have hyK : (Ref21.addR y1 i).K.length = y1.K.length + 1 := by simp [Ref21.addR]
      have hyU : (Ref21.addR y1 i).U.length = y1.U.length := by simp [Ref21.addR]
      have hra := hr1.add i
      obtain ⟨y2, hy2⟩ : ∃ y2, y2 = Ref21.addR y1 i := ⟨_, rfl⟩
      rw [← hy2] at h2 F2 hra hyK hyU ⊢
      have HyK := Lib.hid hyK
      have HyU := Lib.hid hyU
      clear hy2 hyK hyU
      have h3 := h2.bel ((Below.refl _ W2).alloc (Nat.le_refl _) (.cells (qc (.slice a' y2.K.length c') (.slice b' y2.U.length d') y2) 37))
      have hn3 : QB (W2.alloc (.cells (qc (.slice a' y2.K.length c') (.slice b' y2.U.length d') y2) 37)) W2.heap.size (.slice a' y2.K.length c') (.slice b' y2.U.length d') y2 := Blk.new _ _ _
      have hop3 := hop2.alloc (.cells (qc (.slice a' y2.K.length c') (.slice b' y2.U.length d') y2) 37)
      have hbox3 := Blk.alloc hbox2 (.cells (qc (.slice a' y2.K.length c') (.slice b' y2.U.length d') y2) 37)
      have hres3 := hres2.alloc (.cells (qc (.slice a' y2.K.length c') (.slice b' y2.U.length d') y2) 37)
      have pa := fun W (hW : W.heap = (W2.alloc (.cells (qc (.slice a' y2.K.length c') (.slice b' y2.U.length d') y2) 37)).heap) => Inputq.add_any W s1 x1 i (h3.q.heap_eq hW) ok
      rw [hr1.kend, hq1] at pa
      have pa := Lib.hid pa
      clear hq1
      unfold qc at h3 hn3 hop3 hres3 hbox3 pa
      clear k0 k1 k2 k3 k4 k5 o0 o1 o2 o3 j0 j1 j2 j3 j4 j5
      have hlt2 := h2.lt3
      have o1 := hop3.cell 1
      dsimp only [oc] at o1
      obtain ⟨k0, k1, k2, k3, k4, k5⟩ := hn3.cells
      have hz2 := hB2.size
      have ne1 : ¬ W2.heap.size = w.heap.size := by omega
      have ne2 : ¬ w.heap.size = W2.heap.size := by omega
      go_wp2_with fail
      go_region_held3 (fun w' => w'.cell? ⟨W2.heap.size, 0, none⟩ = some (.slice a' y2.K.length c') ∧ w'.cell? ⟨W2.heap.size, 1, none⟩ = some (.slice b' y2.U.length d') ∧ w'.cell? ⟨W2.heap.size, 2, none⟩ = some (.int .i64 y2.fk) ∧ w'.cell? ⟨W2.heap.size, 3, none⟩ = some (.int .i64 y2.fu) ∧ w'.cell? ⟨W2.heap.size, 4, none⟩ = some (.int .u16 y2.last) ∧ w'.cell? ⟨W2.heap.size, 5, none⟩ = some (.int .i64 y2.wrong) ∧ w'.cell? ⟨w.heap.size + 1, 1, none⟩ = some (.int .u16 i)) (first | go_keep | exact ⟨d0, d1, d2, d3, d4, d5, d6⟩ | (go_split_ands; refine ⟨?_, ?_, ?_, ?_, ?_, ?_, ?_⟩ <;> first | go_keep | trace_state))
        ((go_at_call 17; refine (pa.out _ (by rfl)).mono ?_; rintro e W4 ⟨rfl, hT4⟩; obtain ⟨s4, hq4, h4, T4, F4⟩ := (Bo.heap_eq h3 (by rfl)).turn hT4; have hN4 := Blk.touch (Blk.heap_eq hn3 (by rfl)) T4 (fun e => by have := hlt2.1 _ e; omega); have hop4 := Blk.touch (Blk.heap_eq hop3 (by rfl)) T4 (nT.out _ (by omega) (by omega)); have hres4 := Blk.touch (Blk.heap_eq hres3 (by rfl)) T4 (nT.out _ (by omega) (by omega)); have hbox4 : QB _ w.heap.size _ _ y1 := Blk.touch (Blk.heap_eq hbox3 (by rfl)) T4 (nT.out _ (by omega) (by omega)); obtain ⟨d0, d1, d2, d3, d4, d5⟩ := QB.cells hN4; have d6 := hop4.cell 1; dsimp only [oc] at d6; obtain ⟨f0, f1, f2, f3, f4, f5⟩ := frs6 hbox4; obtain ⟨g0, g1, g2, g3, g4, g5⟩ := hbox4.cells))
      go_wp2_with fail
      go_roundw
      case rel =>
        have e1 := hK1'.out
        have e2 := hU1'.out
        have e3 := HyK.out
        have e4 := HyU.out
        have hTT := ((Touch.of_below (S := fpQ s1) hB2).alloc (.cells #[.slice a' y2.K.length c', .slice b' y2.U.length d', .int .i64 y2.fk, .int .i64 y2.fu, .int .u16 y2.last, .int .i64 y2.wrong] 37)).trans (w2 := W4) (S' := fpQ s1) ⟨T4.os, T4.tape, T4.output, T4.size, T4.block⟩ (fun k hk => .inl hk)
        refine ⟨j + 1, by omega, by go_num, rfl, DoInv.next hz1 hlt T1 F1 hra (by omega) (by omega) (hq4.trans HQ1.out) h4 hTT (F2.trans F4 (by simp; omega)) hw1 ?_ ?_ hop4 hres4⟩
        · repeat (refine Touch.setCell ?_ (Or.inl (by dsimp only)) _)
          exact Touch.refl _ _
        · exact QB.set6 hbox4 _ _ y2
      case measure => simp [intOf]; omega
    · have hno1 : (¬ (j : Int) < o ∧ decide ((j : Int) < o) = false) ∨ ((j : Int) < o ∧ j = 300) := by
        by_cases hx : (j : Int) < o
        · exact .inr ⟨hx, by omega⟩
        · exact .inl ⟨hx, by simpa using hx⟩
      clear hgo
      obtain ⟨f0, f1, f2, f3, f4, f5⟩ := frs6 hres
      obtain ⟨g0, g1, g2, g3, g4, g5⟩ := cells6 hres

      rcases hno1 with ⟨hx, hjo⟩ | ⟨hjo, rfl⟩
      all_goals
        go_wp2_with fail
        refine bodyPost_ret (v := .tuple #[rval (.slice a1 y1.K.length c1) (.slice b1 y1.U.length d1) y1, .bool true]) (by simp [results, rval, qv, Try.results81, go_sem, g0, g1, g2, g3, g4, g5]) rfl ?_
        have e1 := hK1'.out
        have e2 := hU1'.out
        refine ⟨x1, y1, hr1, by omega, by omega, finish h hz1 F1 hq1 h1 T1 ?_⟩
        repeat (refine Touch.setCell ?_ (Or.inl (by dsimp only; omega)) _)
        exact Touch.refl _ _

set_option maxRecDepth 100000 in
set_option maxHeartbeats 8000000 in
theorem do6 {B : Nat} {s : S} {x : Q} {y : R} (w : World) (a b : Option Addr) (c d : Nat) (i n o : Int) (h : Bo B s x (.slice a y.K.length c) (.slice b y.U.length d) y w) (hr : Rel x y) (hk : y.K.length ≤ 400000) (hu : y.U.length ≤ 400000) (hn : n ≤ 9223372036854775807) :
    Calls Try.prog 81 #[.pointer (some ⟨s.q, 0, none⟩), rval (.slice a y.K.length c) (.slice b y.U.length d) y, ov 6 i n o] w fun e w' => DoTo B s (.slice a y.K.length c) (.slice b y.U.length d) y w e w' := by
  have okR := hr.okR (by omega) (by omega)
  have ok := hr.ok (by omega) (by omega)
  obtain ⟨W1, hW1, hbox, hop, hres, hz1, hB1⟩ := boxes3 w (.slice a y.K.length c) (.slice b y.U.length d) y 6 i n o
  have h1 := h.bel hB1
  have hlt := h.lt3
  have hno := Lib.hid (show ∀ b, fpQ s b → b < w.heap.size from hlt.1)
  have hs0 := h.size
  obtain ⟨k0, k1, k2, k3, k4, k5⟩ := hbox.cells
  obtain ⟨j0, j1, j2, j3, j4, j5⟩ := frs6 hbox
  have o0 := hop.cell 0
  have o1 := hop.cell 1
  have o2 := hop.cell 2
  have o3 := hop.cell 3
  unfold rval qv ov oc
  unfold qc oc qz at hW1
  dsimp only [oc] at o0 o1 o2 o3
  go_enter Try.func81, Try.ntmps81
  go_upto_region 1 with fail
  rw [← hW1]
  clear hW1
  go_wp2_with fail
  go_loopw [8, 14] (fun okv iv wr => ∃ j : Nat, j ≤ 300 ∧ iv = .int .i64 j ∧ okv = .bool true ∧ DoInv B s (.slice a y.K.length c) (.slice b y.U.length d) y w W1 6 i n o j wr) (fun _ iv _ => 300 - (intOf iv).toNat)
  case atStart => exact ⟨0, by omega, rfl, rfl, s, _, _, x, y, hr, by omega, by omega, rfl, h1, Touch.of_below hB1, Fr.refl _ _ _ _, hbox, hop, hres⟩
  case round =>
    clear k0 k1 k2 k3 k4 k5 o0 o1 o2 o3 j0 j1 j2 j3 j4 j5 h1 hbox hop hres ok okR
    obtain ⟨j, hj, rfl, rfl, s1, k1', u1', x1, y1, hr1, hK1, hU1, hq1, h1, T1, F1, hbox, hop, hres⟩ := hrel
    have hK1' := Lib.hid hK1
    have hU1' := Lib.hid hU1
    have okR := hr1.okR (by omega) (by omega)
    have ok := hr1.ok (by omega) (by omega)
    obtain ⟨a1, c1, b1, d1, rfl, rfl⟩ := h1.slices
    obtain ⟨k0, k1, k2, k3, k4, k5⟩ := hbox.cells
    obtain ⟨j0, j1, j2, j3, j4, j5⟩ := frs6 hbox
    have o0 := hop.cell 0
    have o1 := hop.cell 1
    have o2 := hop.cell 2
    have o3 := hop.cell 3
    dsimp only [oc] at o0 o1 o2 o3
    have hlt1 := h1.lt3
    have hz3 := T1.size
    have hzz := hB1.size
    have hw1 : W1.heap.size ≤ wr.heap.size := by
      have := hres.lt
      omega
    by_cases hgo : (j : Int) < o ∧ j < 300
    · obtain ⟨g1, g2⟩ := hgo
      have hjo : decide ((j : Int) < o) = true := by simpa using g1
      have hnn : ((y1.U.length : Int)) ≤ 9223372036854775807 := by omega
      have p1 := luse_any wr a1 b1 c1 d1 (y1.U.length : Int) h1 hr1 (by omega) (by omega) hnn
      rw [hq1] at p1
      unfold rval qv at p1
      have p1 := Lib.hid p1
      have HQ1 := Lib.hid hq1
      clear hnn hq1
      go_wp2_with fail
      refine p1.out.mono ?_
      rintro e W2 ⟨s2, k', u', rfl, hq2, h2, T2, F2⟩
      obtain ⟨a', c', b', d', rfl, rfl⟩ := h2.slices
      dsimp only [rval, qv]
      have nT : ∀ b, w.heap.size ≤ b → b < w.heap.size + 3 → ¬ fpQ s1 b := fun b h1 h2 hb => (F1.1 b hb).elim (fun e => by have := hno.out _ e; omega) (fun e => by omega)
      have hres2 := hres.touch T2 (nT _ (by omega) (by omega))
      have hop2 := hop.touch T2 (nT _ (by omega) (by omega))
      have hbox2 : QB W2 w.heap.size _ _ y1 := Blk.touch hbox T2 (nT _ (by omega) (by omega))
      clear k0 k1 k2 k3 k4 k5 j0 j1 j2 j3 j4 j5 o0 o1 o2 o3
      obtain ⟨k0, k1, k2, k3, k4, k5⟩ := hbox2.cells
      obtain ⟨j0, j1, j2, j3, j4, j5⟩ := frs6 hbox2
      have hul := Lib.hid (useR_len y1 (y1.U.length : Int))
      have hru := hr1.use (y1.U.length : Int)
      obtain ⟨y2, hy2⟩ : ∃ y2, y2 = Ref21.useR y1 (y1.U.length : Int) := ⟨_, rfl⟩
      rw [← hy2] at h2 F2 hul hru ⊢
      clear hy2
      go_wp2_with fail
      go_roundw
      case rel =>
        have e1 := hK1'.out
        have e2 := hU1'.out
        have e3 := hul.out
        refine ⟨j + 1, by omega, by go_num, rfl, DoInv.next hz1 hlt T1 F1 hru (by omega) (by omega) (hq2.trans HQ1.out) h2 T2 F2 hw1 ?_ ?_ hop2 hres2⟩
        · repeat (refine Touch.setCell ?_ (Or.inl (by dsimp only)) _)
          exact Touch.refl _ _
        · exact QB.set6 hbox2 _ _ y2
      case measure => simp [intOf]; omega
    · have hno1 : (¬ (j : Int) < o ∧ decide ((j : Int) < o) = false) ∨ ((j : Int) < o ∧ j = 300) := by
        by_cases hx : (j : Int) < o
        · exact .inr ⟨hx, by omega⟩
        · exact .inl ⟨hx, by simpa using hx⟩
      clear hgo
      obtain ⟨f0, f1, f2, f3, f4, f5⟩ := frs6 hres
      obtain ⟨g0, g1, g2, g3, g4, g5⟩ := cells6 hres

      rcases hno1 with ⟨hx, hjo⟩ | ⟨hjo, rfl⟩
      all_goals
        go_wp2_with fail
        refine bodyPost_ret (v := .tuple #[rval (.slice a1 y1.K.length c1) (.slice b1 y1.U.length d1) y1, .bool true]) (by simp [results, rval, qv, Try.results81, go_sem, g0, g1, g2, g3, g4, g5]) rfl ?_
        have e1 := hK1'.out
        have e2 := hU1'.out
        refine ⟨x1, y1, hr1, by omega, by omega, finish h hz1 F1 hq1 h1 T1 ?_⟩
        repeat (refine Touch.setCell ?_ (Or.inl (by dsimp only; omega)) _)
        exact Touch.refl _ _

theorem do_any {B : Nat} {s : S} {x : Q} {y : R} (w : World) (a b : Option Addr) (c d : Nat) (kd i n o : Int) (h : Bo B s x (.slice a y.K.length c) (.slice b y.U.length d) y w) (hr : Rel x y) (hk : y.K.length ≤ 400000) (hu : y.U.length ≤ 400000) (hn : n ≤ 9223372036854775807) :
    Calls Try.prog 81 #[.pointer (some ⟨s.q, 0, none⟩), rval (.slice a y.K.length c) (.slice b y.U.length d) y, ov kd i n o] w fun e w' => DoTo B s (.slice a y.K.length c) (.slice b y.U.length d) y w e w' := by
  by_cases h0 : kd = 0
  · subst h0; exact do0 w a b c d i n o h hr hk hu
  by_cases h1 : kd = 1
  · subst h1; exact do1 w a b c d i n o h hr hk hu hn
  by_cases h2 : kd = 2
  · subst h2; exact do2 w a b c d i n o h hr hk hu hn
  by_cases h3 : kd = 3
  · subst h3; exact do3 w a b c d i n o h hr hk hu hn
  by_cases h4 : kd = 4
  · subst h4; exact do4 w a b c d i n o h hr hk hu hn
  by_cases h5 : kd = 5
  · subst h5; exact do5 w a b c d i n o h hr hk hu hn
  by_cases h6 : kd = 6
  · subst h6; exact do6 w a b c d i n o h hr hk hu hn
  exact do7 w a b c d kd i n o h hr hk hu ⟨h0, h1, h2, h3, h4, h5, h6⟩
end Go.Proofs.Ythdppaohagghbaa.InputqP
