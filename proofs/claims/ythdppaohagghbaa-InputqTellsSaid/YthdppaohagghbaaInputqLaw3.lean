/-
  The walk of backstaylaw21.use.
-/
import Derived.Test.YthdppaohagghbaaInputqLaw2
namespace Go.Proofs.Ythdppaohagghbaa.InputqP
open Go.RowKit Go.Sort
set_option linter.all false
open Inputq (QAt fpQ TurnedQ S)
open Ref21 (RAt RTo rval qv L)

/-- The parameter's box and the result's. -/
def boxP (w : World) (x : Array Value) : World := (w.alloc (.cells x 37)).alloc (.cells #[.slice none 0 0, .slice none 0 0, .int .i64 0, .int .i64 0, .int .u16 0, .int .i64 0] 37)

/-- What a law's function hands back. -/
def BoTo (B : Nat) (s : S) (x' : Q) (k u : Value) (y' : R) (f : Value → Value) (w : World) (e : Ending) (w' : World) : Prop :=
  ∃ s' k' u', e = .returned (f (rval k' u' y')) ∧ s'.q = s.q ∧ Bo B s' x' k' u' y' w' ∧ Touch (fpQ s) w w' ∧ Fr w s k u s' k' u'

set_option maxRecDepth 100000 in
set_option maxHeartbeats 4000000 in
theorem luse_any {B : Nat} {s : S} {x : Q} {y : R} (w : World) (a b : Option Addr) (c d : Nat) (n : Int) (h : Bo B s x (.slice a y.K.length c) (.slice b y.U.length d) y w) (hr : Rel x y) (hk : y.K.length ≤ 500000) (hu : y.U.length ≤ 500000) (hn : n ≤ 9223372036854775807) :
    Calls Try.prog 134 #[.pointer (some ⟨s.q, 0, none⟩), rval (.slice a y.K.length c) (.slice b y.U.length d) y, .int .i64 n] w fun e w' => BoTo B s (Inputq.useQ x n) (.slice a y.K.length c) (.slice b y.U.length d) (Ref21.useR y n) (fun q => .tuple #[q, .bool true]) w e w' := by
  have ok := hr.ok hk hu
  have okR := hr.okR hk hu
  obtain ⟨W1, hW1, hz1, hB1, hbox, hres⟩ := Ref21.boxes w #[.slice a y.K.length c, .slice b y.U.length d, .int .i64 y.fk, .int .i64 y.fu, .int .u16 y.last, .int .i64 y.wrong]
  have h1 := h.bel hB1
  have p1 := Inputq.use_any W1 s x n h1.q ok hn
  rw [hr.useV, hr.useK, hr.useE] at p1
  obtain ⟨V, hV⟩ : ∃ V, V = Ref21.useV y n := ⟨_, rfl⟩
  obtain ⟨K, hK⟩ : ∃ K, K = Ref21.useK y n := ⟨_, rfl⟩
  obtain ⟨E, hE⟩ : ∃ E, E = Ref21.useE y n := ⟨_, rfl⟩
  rw [← hV, ← hK, ← hE] at p1
  have et : ∀ q, Ref21.useT y n q = .tuple #[q, .int .u16 V, .bool K, .int .i64 E] := fun q => by unfold Ref21.useT; rw [hV, hK, hE]
  have et := Lib.hid et
  have p1' := Lib.hid p1
  have hlt := fp_lt h.q
  have hs0 := h.size
  clear hV hK hE p1
  unfold rval qv
  go_enter Try.func134, Try.ntmps134
  go_upto_region 1 with fail
  rw [← hW1]
  clear hW1
  go_wp2_with fail
  refine p1'.out.mono ?_
  rintro e W2 ⟨rfl, hT⟩
  obtain ⟨s2, hsq, h2, hT2, hF2⟩ := h1.turn hT
  have hbox2 := hbox.touch hT2 (fun e => by have := hlt _ e; omega)
  have hres2 := hres.touch hT2 (fun e => by have := hlt _ e; omega)
  have hz2 := hT2.size
  have k0 := hbox2.cell 0
  have k1 := hbox2.cell 1
  have k2 := hbox2.cell 2
  have k3 := hbox2.cell 3
  have k4 := hbox2.cell 4
  have k5 := hbox2.cell 5
  have p2 := use_any W2 a b c d y n h2.r okR
  unfold rval qv at p2
  have p2 := Lib.hid p2
  go_wp2_with fail
  refine p2.out.mono ?_
  intro e W3 hR
  obtain ⟨k', u', rfl, h3, hB3, hF3⟩ := h2.ref hR
  obtain ⟨a', c', b', d', rfl, rfl⟩ := h3.slices
  rw [et.out]
  dsimp only [rval, qv]
  have hbox3 := hbox2.below hB3 hbox2.lt
  have hres3 := hres2.below hB3 hres2.lt
  obtain ⟨y', hy'⟩ : ∃ y', y' = Ref21.useR y n := ⟨_, rfl⟩
  rw [← hy'] at h3 ⊢
  have HY := Lib.hid hy'
  clear hy'
  have hz3 := hB3.size
  have h4 := h3.bel ((Below.refl _ W3).alloc (Nat.le_refl _) (.cells #[.slice a' y'.K.length c', .slice b' y'.U.length d', .int .i64 y'.fk, .int .i64 y'.fu, .int .u16 y'.last, .int .i64 y'.wrong] 37))
  have hbn : Blk (W3.alloc (.cells #[.slice a' y'.K.length c', .slice b' y'.U.length d', .int .i64 y'.fk, .int .i64 y'.fu, .int .u16 y'.last, .int .i64 y'.wrong] 37)) W3.heap.size 37 #[.slice a' y'.K.length c', .slice b' y'.U.length d', .int .i64 y'.fk, .int .i64 y'.fu, .int .u16 y'.last, .int .i64 y'.wrong] := Blk.new _ _ _
  have hres4 := hres3.alloc (.cells #[.slice a' y'.K.length c', .slice b' y'.U.length d', .int .i64 y'.fk, .int .i64 y'.fu, .int .u16 y'.last, .int .i64 y'.wrong] 37)
  have j0 := hbn.cell 0
  have j1 := hbn.cell 1
  have j2 := hbn.cell 2
  have j3 := hbn.cell 3
  have j4 := hbn.cell 4
  have j5 := hbn.cell 5
  have g0 := hres4.cell 0
  have g1 := hres4.cell 1
  have g2 := hres4.cell 2
  have g3 := hres4.cell 3
  have g4 := hres4.cell 4
  have g5 := hres4.cell 5
  have e0 := hres4.frozen 0
  have e1 := hres4.frozen 1
  have e2 := hres4.frozen 2
  have e3 := hres4.frozen 3
  have e4 := hres4.frozen 4
  have e5 := hres4.frozen 5
  clear k0 k1 k2 k3 k4 k5
  go_wp2_with fail
  refine bodyPost_ret (v := .tuple #[rval (.slice a' y'.K.length c') (.slice b' y'.U.length d') y', .bool true]) (by simp [results, rval, qv, Try.results134, go_sem, g0, g1, g2, g3, g4, g5]) rfl ?_
  clear g0 g1 g2 g3 g4 g5 e0 e1 e2 e3 e4 e5 j0 j1 j2 j3 j4 j5
  have hTw : Touch (fpQ s) w W3 := ((Touch.of_below hB1).trans hT2 (fun k hk => .inl hk)).trans (Touch.of_below (S := noB) hB3) (fun k hk => hk.elim)
  have hF := (hF2.trans hF3 hz2)
  have hlt2 := h.lt3
  have HY' := HY.out
  subst HY'
  refine ⟨s2, _, _, rfl, hsq, h4.touch (T := fun b => b = w.heap.size + 1) ?_ ?_, ?_, ?_⟩
  · repeat (refine Touch.setCell ?_ (Or.inl (by simp)) _)
    exact Touch.refl _ _
  · rintro b rfl
    refine ⟨fun hb => ?_, fun hb => ?_, fun hb => ?_⟩
    · rcases hF.1 _ hb with e | e
      · have := hlt2.1 _ e; omega
      · omega
    · rcases hF.2.1 _ hb with e | e
      · have := hlt2.2.1 _ e; omega
      · omega
    · rcases hF.2.2 _ hb with e | e
      · have := hlt2.2.2 _ e; omega
      · omega
  · repeat (refine Touch.setCell ?_ (Or.inr (by simp)) _)
    exact hTw.alloc _
  · exact Fr.trans (W := w) (Fr.refl w s _ _) hF (by omega)
end Go.Proofs.Ythdppaohagghbaa.InputqP
