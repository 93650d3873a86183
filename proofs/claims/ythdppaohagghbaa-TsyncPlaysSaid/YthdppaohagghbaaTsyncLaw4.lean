/-
  The walk of backstaylaw26.TsyncPlays. No condition.
-/
import Derived.Test.YthdppaohagghbaaTsyncLaw3
namespace Go.Proofs.Ythdppaohagghbaa.Tsync
open Go.RowKit
open RingNote (NT At fp Turned putF putL)
open Num
open Ref26 (R OkR RAt RTn RTs rv rc mean waitR askR askX noteX cut16 slBlk)
set_option linter.all false

/-- A list stands apart from what is written. -/
def Off (w : World) (bx : Nat) (s : S) (v : Value) (l : List Int) : Prop := 0 < l.length → ∀ k, slBlk v = some k → w.heap.size ≤ k ∧ k ≠ bx ∧ ¬ fpS s k
theorem L.blk {W : World} {v : Value} {l : List Int} (h : Ref26.L W v l) (hl : 0 < l.length) : ∃ k, slBlk v = some k ∧ k < W.heap.size := by
  obtain ⟨a, c, rfl, hc, hr⟩ := h
  obtain ⟨g, off, rfl, hg, _⟩ := hr.2 hl
  exact ⟨g, rfl, hg⟩
theorem L.touch {W W' : World} {T : Nat → Prop} {v : Value} {l : List Int} (h : Ref26.L W v l) (hT : Touch T W W') (hn : 0 < l.length → ∀ k, slBlk v = some k → ¬ T k) : Ref26.L W' v l := by
  obtain ⟨a, c, rfl, hc, hr⟩ := h
  refine ⟨a, c, rfl, hc, hr.1, fun h0 => ?_⟩
  obtain ⟨g, off, rfl, hg, hcell⟩ := hr.2 h0
  exact ⟨g, off, rfl, Nat.lt_of_lt_of_le hg hT.size, fun j hj => (hT.cell (p := ⟨g, off + j, none⟩) hg (hn h0 g rfl)).trans (hcell j hj)⟩

structure St (w : World) (bx : Nat) (s : S) (y : Y) (o p : Value) (x : R) (W : World) : Prop where
  sat : SAt W s y
  far : ∀ k, fpS s k → w.heap.size ≤ k
  nb : ¬ fpS s bx
  box : Blk W bx 59 (rc o p x)
  at_ : RAt W o p x
  oo : Off w bx s o x.O
  op : Off w bx s p x.P
  bel : Below w.heap.size w W
  hbx : w.heap.size ≤ bx
section
variable {w W W' : World} {bx : Nat} {s : S} {y y' : Y} {o p o' p' : Value} {x x' : R}
theorem St.below (h : St w bx s y o p x W) (hb : Below W.heap.size W W') : St w bx s y o p x W' :=
  ⟨h.sat.below hb, h.far, h.nb, h.box.below hb h.box.lt, ⟨h.at_.1.below hb, h.at_.2.below hb⟩, h.oo, h.op, h.bel.trans (hb.mono h.bel.size), h.hbx⟩
theorem St.turn (h : St w bx s y o p x W) (t : TurnedS W s y' W') : ∃ s', s'.q = s.q ∧ St w bx s' y' o p x W' ∧ Touch (fpS s) W W' ∧ ∀ g, g < W.heap.size → ¬ fpS s g → ¬ fpS s' g := by
  obtain ⟨s', e, hq, hT, hF⟩ := t
  have hoff : ∀ v l, Ref26.L W v l → Off w bx s v l → Off w bx s' v l := fun v l hl ho h0 k hk => by
    obtain ⟨k1, k2, k3⟩ := ho h0 k hk
    obtain ⟨k', e', hlt⟩ := L.blk hl h0
    rw [hk] at e'
    cases e'
    exact ⟨k1, k2, fun hk2 => (hF k hk2).elim k3 (fun e => by omega)⟩
  have hlt := h.box.lt
  refine ⟨s', e, ⟨hq, fun k hk => (hF k hk).elim (h.far k) (fun e => Nat.le_trans h.bel.size e), fun hk => (hF _ hk).elim h.nb (fun e => by omega), h.box.touch hT h.nb,
    ⟨L.touch h.at_.1 hT (fun h0 k hk => (h.oo h0 k hk).2.2), L.touch h.at_.2 hT (fun h0 k hk => (h.op h0 k hk).2.2)⟩, hoff _ _ h.at_.1 h.oo, hoff _ _ h.at_.2 h.op, h.bel.trans (hT.below h.bel.size h.far), h.hbx⟩, hT, fun g hg hn hk => (hF g hk).elim hn (fun e => by omega)⟩
/-- The box written anew. -/
def set5 (W : World) (bx : Nat) (o p : Value) (x : R) : World := (((((W.setCell ⟨bx, 0, none⟩ o).setCell ⟨bx, 1, none⟩ p).setCell ⟨bx, 2, none⟩ (.int .i64 x.next)).setCell ⟨bx, 3, none⟩ (.int .i64 x.waits)).setCell ⟨bx, 4, none⟩ (.int .i64 x.held))
theorem touch5 (W : World) (bx : Nat) (o p : Value) (x : R) : Touch (fun b => b = bx) W (set5 W bx o p x) := by
  exact (((((Touch.refl (fun b => b = bx) W).setCell (p := ⟨bx, 0, none⟩) (.inl rfl) _).setCell (p := ⟨bx, 1, none⟩) (.inl rfl) _).setCell (p := ⟨bx, 2, none⟩) (.inl rfl) _).setCell (p := ⟨bx, 3, none⟩) (.inl rfl) _).setCell (p := ⟨bx, 4, none⟩) (.inl rfl) _
theorem St.set (h : St w bx s y o p x W) (hr : RAt W o' p' x') (h1 : Off w bx s o' x'.O) (h2 : Off w bx s p' x'.P) : St w bx s y o' p' x' (set5 W bx o' p' x') := by
  have hT := touch5 W bx o' p' x'
  refine ⟨h.sat.touch hT (fun k hk e => h.nb (e ▸ hk)), h.far, h.nb, ?_, ⟨L.touch hr.1 hT (fun h0 k hk => (h1 h0 k hk).2.1), L.touch hr.2 hT (fun h0 k hk => (h2 h0 k hk).2.1)⟩, h1, h2, h.bel.trans (hT.below h.bel.size (fun k e => by have := h.hbx; omega)), h.hbx⟩
  exact ((((h.box.set_ 0 o').set_ 1 p').set_ 2 (.int .i64 x'.next)).set_ 3 (.int .i64 x'.waits)).set_ 4 (.int .i64 x'.held)
theorem St.set2 (h : St w bx s y o p x W) : St w bx s y (.slice none 0 0) (.slice none 0 0) { x with O := [], P := [] } ((W.setCell ⟨bx, 0, none⟩ (.slice none 0 0)).setCell ⟨bx, 1, none⟩ (.slice none 0 0)) := by
  have hT : Touch (fun b => b = bx) W ((W.setCell ⟨bx, 0, none⟩ (.slice none 0 0)).setCell ⟨bx, 1, none⟩ (.slice none 0 0)) :=
    ((Touch.refl (fun b => b = bx) W).setCell (p := ⟨bx, 0, none⟩) (.inl rfl) _).setCell (p := ⟨bx, 1, none⟩) (.inl rfl) _
  refine ⟨h.sat.touch hT (fun k hk e => h.nb (e ▸ hk)), h.far, h.nb, ?_, ⟨Ref26.L.nil _, Ref26.L.nil _⟩, fun h => absurd h (by simp), fun h => absurd h (by simp), h.bel.trans (hT.below h.bel.size (fun k e => by have := h.hbx; omega)), h.hbx⟩
  exact (h.box.set_ 0 _).set_ 1 _
/-- Lists laid anew. -/
theorem St.fresh (h : St w bx s y o p x W) (hb : Below W.heap.size W W') (hr : RAt W' o' p' x') (h1 : ∀ k, slBlk o' = some k → W.heap.size + 2 ≤ k) (h2 : ∀ k, slBlk p' = some k → W.heap.size + 2 ≤ k) : St w bx s y o' p' x' (set5 W' bx o' p' x') := by
  have hs := h.bel.size
  have hlt := h.box.lt
  refine (h.below hb).set hr (fun _ k hk => ?_) (fun _ k hk => ?_)
  · have := h1 k hk
    exact ⟨by omega, by omega, fun hk2 => by have := h.sat.lt k hk2; omega⟩
  · have := h2 k hk
    exact ⟨by omega, by omega, fun hk2 => by have := h.sat.lt k hk2; omega⟩
theorem St.cell (h : St w bx s y o p x W) {b o' : Nat} (hb : b < w.heap.size) : W.cell? ⟨b, o', none⟩ = w.cell? ⟨b, o', none⟩ := h.bel.cell (p := ⟨b, o', none⟩) hb
end

theorem Rel.clr {y : Y} {x : R} (h : Rel y x) : Rel { y with first := 0, l := [] } { x with O := [], P := [] } := ⟨rfl, rfl, h.next, h.waits, h.held⟩
theorem askX_l (x : R) (f : Int) : (askX x f).O = x.O ∧ (askX x f).P = x.P := by unfold askX; split <;> exact ⟨rfl, rfl⟩
theorem askY_l (y : Y) (f : Int) : (askY y f).first = y.first ∧ (askY y f).l = y.l := by unfold askY; split <;> exact ⟨rfl, rfl⟩
theorem askY_n (y : Y) (f : Int) (k : Nat) (h1 : 0 ≤ y.waits ∧ y.waits ≤ k) (h2 : 0 ≤ y.held ∧ y.held ≤ 9 * k) : (0 ≤ (askY y f).waits ∧ (askY y f).waits ≤ (k : Int) + 1) ∧ (0 ≤ (askY y f).held ∧ (askY y f).held ≤ 9 * ((k : Int) + 1)) := by
  have := askV_bd y f
  unfold askY
  split
  · omega
  · dsimp only; omega
theorem clr_ok {y : Y} (h : Ok y) : Ok { y with first := 0, l := [] } := by
  obtain ⟨o1, o2, o3, o4, o5, o6, o7⟩ := h
  exact ⟨by simp, by simp, by simp, by simp, o5, o6, o7⟩

/-- Between two rounds: at most c notes, n waits. -/
def PInv (w : World) (q bx c n : Nat) (W : World) : Prop :=
  ∃ s y o p x, s.q = q ∧ St w bx s y o p x W ∧ Rel y x ∧ Ok y ∧ y.first + y.l.length ≤ c ∧ (0 ≤ y.waits ∧ y.waits ≤ n) ∧ (0 ≤ y.held ∧ y.held ≤ 9 * n)

/-- Between two rounds of the inner loop. -/
def PIn (w : World) (q bx g c n : Nat) (cs : Array Value) (W : World) : Prop :=
  ∃ s y o p x, s.q = q ∧ St w bx s y o p x W ∧ Rel y x ∧ Ok y ∧ y.first + y.l.length ≤ c ∧ (0 ≤ y.waits ∧ y.waits ≤ n) ∧ (0 ≤ y.held ∧ y.held ≤ 9 * n) ∧ ¬ fpS s g ∧ Blk W g 54 cs

def Ops4Wf (ops : List Op4) : Prop := ∀ x ∈ ops, -9223372036854775808 ≤ x.2.1 ∧ x.2.1 ≤ 9223372036854775807

set_option maxRecDepth 100000 in
set_option maxHeartbeats 8000000 in
theorem plays_law (a : Option Addr) (len cap : Nat) (ops : List Op4) (w0 : World) (hops0 : Ops4 w0 a len ops) (hwf : Ops4Wf ops) :
    Calls Try.prog 7 #[.slice a len cap] w0 fun e w' => e = .returned (.bool true) ∧ Below w0.heap.size w0 w' := by
  go_enter Try.func7, Try.ntmps7
  go_wp2_with fail
  refine (awake_any _).mono ?_
  rintro e w ⟨rfl, hb0⟩
  have hops := hops0.below hb0
  clear hops0
  go_wp2_with fail
  refine (new_any w).mono ?_
  rintro e w1 ⟨sa, rfl, hSa, hB1, hF1⟩
  obtain ⟨qa, hqa⟩ : ∃ q, q = sa.q := ⟨_, rfl⟩
  rw [← hqa]
  have hB0 := Lib.hid hb0
  clear hb0
  obtain ⟨W2, hW2⟩ : ∃ W2, W2 = w1.alloc (.cells Ref26.zc 59) := ⟨_, rfl⟩
  have hbx : Blk W2 w1.heap.size 59 Ref26.zc := by rw [hW2]; exact Blk.new _ _ _
  have hb2 : Below w1.heap.size w1 W2 := by rw [hW2]; exact (Below.refl _ w1).alloc (Nat.le_refl _) _
  have hI : PInv w qa w1.heap.size 0 0 W2 := ⟨sa, ⟨0, [], 0, 0, 0⟩, .slice none 0 0, .slice none 0 0, ⟨[], [], 0, 0, 0⟩, hqa.symm,
    ⟨hSa.below hb2, hF1, fun hk => by have := hSa.lt _ hk; omega, hbx, ⟨Ref26.L.nil _, Ref26.L.nil _⟩, fun h => absurd h (by simp), fun h => absurd h (by simp), hB1.trans (hb2.mono hB1.size), hB1.size⟩,
    ⟨rfl, rfl, rfl, rfl, rfl⟩, ⟨by simp, by simp, by simp, by simp, by simp, by simp, by simp⟩, by simp, by simp, by simp⟩
  have hbw : w.heap.size ≤ w1.heap.size := hB1.size
  clear hSa hB1 hF1 hqa hbx hb2
  generalize hbxe : w1.heap.size = bx at *
  unfold Ref26.zc at hW2
  go_upto_region 5 with fail
  rw [← hW2]
  clear hW2
  go_wp2_with fail
  go_loopw [5] (fun iv wr => ∃ k : Nat, k ≤ 100 ∧ k ≤ len ∧ iv = .int .i64 k ∧ PInv w qa bx (20 * k) k wr) (fun iv _ => 100 - (intOf iv).toNat)
  case atStart => exact ⟨0, by omega, by omega, rfl, hI⟩
  case round =>
    clear hI hbxe
    obtain ⟨k, hk, hkl, rfl, hP⟩ := hrel
    by_cases hgo : k < len ∧ k < 100
    · obtain ⟨hlt, h2⟩ := hgo
      have hlt' : (k : Int) < (len : Int) := by omega
      have h2' : (k : Int) < 100 := by omega
      have hi0 : (0 : Int) ≤ (k : Int) := by omega
      obtain ⟨op, hx⟩ : ∃ op, ops[k]? = some op := ⟨ops[k]'(by rw [hops.1]; exact hlt), by simp [hops.1, hlt]⟩
      obtain ⟨A1, A2⟩ := hwf op (List.mem_of_getElem? hx)
      obtain ⟨b, off, rfl, hb, hcell⟩ := hops.2 (by omega)
      obtain ⟨u0, u1, u2, u3⟩ := hcell k op hx
      obtain ⟨kd, A, B, n⟩ := op
      dsimp only at u0 u1 u2 u3 A1 A2
      clear hcell hx
      obtain ⟨s, y, o, p, x, rfl, hSt, hRel, hOk, hcnt, hwt, hhd⟩ := hP
      have hat := hSt.at_
      obtain ⟨⟨ao, co, eo, _⟩, ⟨ap, cp, ep, _⟩⟩ := hat
      subst eo ep
      have m0 := (hSt.cell hb).trans u0
      have m1 := (hSt.cell hb).trans u1
      have m2 := (hSt.cell hb).trans u2
      have m3 := (hSt.cell hb).trans u3
      have hzw := hSt.bel.size
      have hbl := hSt.box.lt
      clear u0 u1 u2 u3
      go_upto_region 9 with fail
      obtain ⟨WO, hWO⟩ : ∃ WO, WO = wr.alloc (.cells #[.int .i64 kd, .int .i64 A, .int .i64 B, .int .i64 n] 54) := ⟨_, rfl⟩
      have hob : Blk WO wr.heap.size 54 #[.int .i64 kd, .int .i64 A, .int .i64 B, .int .i64 n] := by rw [hWO]; exact Blk.new _ _ _
      have hO : St w bx s y (.slice ao x.O.length co) (.slice ap x.P.length cp) x WO := by rw [hWO]; exact hSt.below ((Below.refl _ wr).alloc (Nat.le_refl _) _)
      have hno : ¬ fpS s wr.heap.size := fun hk => by have := hSt.sat.lt _ hk; omega
      rw [← hWO]
      clear hWO hSt m0 m1 m2 m3
      have hgb : w.heap.size ≤ wr.heap.size ∧ bx < wr.heap.size := ⟨hzw, hbl⟩
      clear hzw hbl
      have okx := hRel.ok hOk
      have hel := Lib.hid (show x.P.length = x.O.length by rw [hRel.lp, hRel.lo])
      generalize hge : wr.heap.size = g at *
      have c0 := hob.cell 0
      have c1 := hob.cell 1
      have c2 := hob.cell 2
      have c3 := hob.cell 3
      clear hge
      by_cases k0 : kd = 0
      · subst k0
        have hcnt' : y.first + y.l.length ≤ 2305843009213693951 := by omega
        obtain ⟨ok3, hc3⟩ := noteY_ok hOk A B hcnt'
        have rel3 := hRel.note hOk.2.2.1 A B
        have pn := Lib.hid (note_any WO s y A B hO.sat hOk)
        have pr := Lib.hid (fun W hW => Ref26.note_any W (.slice ao x.O.length co) (.slice ap x.P.length cp) x A B hW okx hel.out)
        have hwt3 : 0 ≤ (noteY y A B).waits ∧ (noteY y A B).waits ≤ k := hwt
        have hhd3 : 0 ≤ (noteY y A B).held ∧ (noteY y A B).held ≤ 9 * k := hhd
        generalize noteY y A B = y3 at *
        generalize noteX x A B = x3 at *
        unfold rv rc at pr
        go_wp2_with fail
        refine pn.out.mono ?_
        rintro e W3 ⟨rfl, ht3⟩
        obtain ⟨s3, e3, hS3, hT3, hN3⟩ := hO.turn ht3
        have hob3 := hob.touch hT3 hno
        have hbx3 := hS3.box
        unfold rc at hbx3
        clear c0 c1 c2 c3
        have c1 := hob3.cell 1
        have c2 := hob3.cell 2
        have q0 := hbx3.cell 0
        have q1 := hbx3.cell 1
        have q2 := hbx3.cell 2
        have q3 := hbx3.cell 3
        have q4 := hbx3.cell 4
        go_wp2_with fail
        refine (pr.out _ hS3.at_).mono ?_
        rintro e W4 ⟨o4, p4, rfl, hr4, hb4, f1, f2⟩
        have hr4' := hr4
        obtain ⟨⟨a4, z4, e4, _⟩, ⟨b4, d4, e5, _⟩⟩ := hr4'
        subst e4 e5
        have hbx4 := hbx3.below hb4 hbx3.lt
        have hS5 := hS3.fresh hb4 hr4 f1 f2
        clear q0 q1 q2 q3 q4 hbx3
        have q0 := hbx4.cell 0
        have q1 := hbx4.cell 1
        have q2 := hbx4.cell 2
        have q3 := hbx4.cell 3
        have q4 := hbx4.cell 4
        have j0 := hbx4.frozen 0
        have j1 := hbx4.frozen 1
        have j2 := hbx4.frozen 2
        have j3 := hbx4.frozen 3
        have j4 := hbx4.frozen 4
        obtain ⟨W5, hW5⟩ : ∃ W5, W5 = set5 W4 bx (.slice a4 x3.O.length z4) (.slice b4 x3.P.length d4) x3 := ⟨_, rfl⟩
        rw [← hW5] at hS5
        unfold set5 at hW5
        clear pr pn
        unfold rv rc
        go_upto_region 27 with fail
        rw [← hW5]
        clear hW5 q0 q1 q2 q3 q4 j0 j1 j2 j3 j4 hbx4
        have ps := same_any W5 s3 _ (.slice a4 _ z4) (.slice b4 _ d4) _ hS5.sat ok3 hS5.at_ rel3
        rw [e3] at ps
        have hbx5 := hS5.box
        unfold rv rc at ps
        unfold rc at hbx5
        have ps := Lib.hid ps
        have q0 := hbx5.cell 0
        have q1 := hbx5.cell 1
        have q2 := hbx5.cell 2
        have q3 := hbx5.cell 3
        have q4 := hbx5.cell 4
        go_wp2_with fail
        refine ps.out.mono ?_
        rintro e W6 ⟨rfl, hb6⟩
        have hI6 := Lib.hid (show PInv w s.q bx (20 * (k + 1)) (k + 1) W6 from ⟨s3, _, _, _, _, e3, hS5.below hb6, rel3, ok3, by omega, by omega, by omega⟩)
        clear hS5 rel3 ok3 hbx5 q0 q1 q2 q3 q4 ps
        go_wp2_with fail
        go_roundw
        case rel => exact ⟨k + 1, by omega, by omega, by go_num, hI6.out⟩
        case measure => simp [intOf]; omega
      · by_cases k1 : kd = 1
        · subst k1
          have pr := Ref26.ask_any WO (.slice ao x.O.length co) (.slice ap x.P.length cp) x A hO.at_ okx A1 A2 (by rw [hRel.waits]; omega) (by rw [hRel.held]; omega)
          rw [hRel.askV A] at pr
          have pt := Lib.hid (fun W hW => ask_any W s y A hW hOk A1 A2)
          have ok3 := askY_ok hOk A (by omega) (by omega)
          have rel3 := hRel.ask A
          have hcnt3 : (askY y A).first + (askY y A).l.length ≤ ((20 * k : Nat) : Int) := by rw [(askY_l y A).1, (askY_l y A).2]; omega
          obtain ⟨hwt3, hhd3⟩ := askY_n y A k hwt hhd
          have hxO := Lib.hid (askX_l x A)
          generalize askY y A = y3 at *
          generalize askX x A = x3 at *
          generalize askV y A = v at *
          unfold RTs rv rc at pr
          have pr := Lib.hid pr
          have hbx0 := hO.box
          unfold rc at hbx0
          have q0 := hbx0.cell 0
          have q1 := hbx0.cell 1
          have q2 := hbx0.cell 2
          have q3 := hbx0.cell 3
          have q4 := hbx0.cell 4
          go_wp2_with fail
          refine pr.out.mono ?_
          rintro e W4 ⟨rfl, hr4, hb4⟩
          obtain ⟨W7, hW7⟩ : ∃ W7, W7 = W4.alloc (.cells (rc (.slice ao x.O.length co) (.slice ap x.P.length cp) x3) 59) := ⟨_, rfl⟩
          have hbn : Blk W7 W4.heap.size 59 (rc (.slice ao x.O.length co) (.slice ap x.P.length cp) x3) := by rw [hW7]; exact Blk.new _ _ _
          have hb7 : Below WO.heap.size WO W7 := by rw [hW7]; exact hb4.alloc hb4.size _
          have hO7 := hO.below hb7
          have hob7 := hob.below hb7 hob.lt
          have hbs4 := hb4.size
          unfold rc at hW7 hbn
          go_upto_region 15 with fail
          rw [← hW7]
          clear hW7 q0 q1 q2 q3 q4 hbx0 c0 c1 c2 c3
          have c1 := hob7.cell 1
          go_wp2_with fail
          refine (pt.out _ hO7.sat).mono ?_
          rintro e W8 ⟨rfl, ht8⟩
          obtain ⟨s3, e3, hS3, hT3, hN3⟩ := hO7.turn ht8
          have hbn8 := hbn.touch hT3 (fun hk => by have := hO.sat.lt _ hk; omega)
          have hS5 := hS3.set (x' := x3) (o' := .slice ao x.O.length co) (p' := .slice ap x.P.length cp) ⟨by rw [hxO.out.1]; exact hS3.at_.1, by rw [hxO.out.2]; exact hS3.at_.2⟩ (by rw [hxO.out.1]; exact hS3.oo) (by rw [hxO.out.2]; exact hS3.op)
          have hbx4 := hS3.box
          unfold rc at hbx4
          have n0 := hbn8.cell 0
          have n1 := hbn8.cell 1
          have n2 := hbn8.cell 2
          have n3 := hbn8.cell 3
          have n4 := hbn8.cell 4
          have q0 := hbx4.cell 0
          have q1 := hbx4.cell 1
          have q2 := hbx4.cell 2
          have q3 := hbx4.cell 3
          have q4 := hbx4.cell 4
          have j0 := hbx4.frozen 0
          have j1 := hbx4.frozen 1
          have j2 := hbx4.frozen 2
          have j3 := hbx4.frozen 3
          have j4 := hbx4.frozen 4
          obtain ⟨W5, hW5⟩ : ∃ W5, W5 = set5 W8 bx (.slice ao x.O.length co) (.slice ap x.P.length cp) x3 := ⟨_, rfl⟩
          rw [← hW5] at hS5
          unfold set5 at hW5
          clear pr pt
          go_upto_region 27 with fail
          rw [← hW5]
          clear hW5 q0 q1 q2 q3 q4 j0 j1 j2 j3 j4 hbx4 n0 n1 n2 n3 n4
          have ps := same_any W5 s3 _ (.slice ao x.O.length co) (.slice ap x.P.length cp) _ hS5.sat ok3 hS5.at_ rel3
          rw [e3] at ps
          have hbx5 := hS5.box
          unfold rv rc at ps
          unfold rc at hbx5
          have ps := Lib.hid ps
          have q0 := hbx5.cell 0
          have q1 := hbx5.cell 1
          have q2 := hbx5.cell 2
          have q3 := hbx5.cell 3
          have q4 := hbx5.cell 4
          go_wp2_with fail
          refine ps.out.mono ?_
          rintro e W6 ⟨rfl, hb6⟩
          have hI6 := Lib.hid (show PInv w s.q bx (20 * (k + 1)) (k + 1) W6 from ⟨s3, _, _, _, _, e3, hS5.below hb6, rel3, ok3, by omega, by omega, by omega⟩)
          clear hS5 rel3 ok3 hbx5 q0 q1 q2 q3 q4 ps
          go_wp2_with fail
          go_roundw
          case rel => exact ⟨k + 1, by omega, by omega, by go_num, hI6.out⟩
          case measure => simp [intOf]; omega
        · by_cases k2 : kd = 2
          · subst k2
            have pc := Lib.hid (clear_any WO s y hO.sat)
            have rel3 := hRel.clr
            have ok3 := clr_ok hOk
            go_wp2_with fail
            refine pc.out.mono ?_
            rintro e W3 ⟨rfl, ht3⟩
            obtain ⟨s3, e3, hS3, hT3, hN3⟩ := hO.turn ht3
            have hS5 := hS3.set2
            have hbx3 := hS3.box
            unfold rc at hbx3
            have q0 := hbx3.cell 0
            have q1 := hbx3.cell 1
            have j0 := hbx3.frozen 0
            have j1 := hbx3.frozen 1
            obtain ⟨W5, hW5⟩ : ∃ W5, W5 = (W3.setCell ⟨bx, 0, none⟩ (.slice none 0 0)).setCell ⟨bx, 1, none⟩ (.slice none 0 0) := ⟨_, rfl⟩
            rw [← hW5] at hS5
            have hcnt3 : ({ y with first := 0, l := [] } : Y).first + ({ y with first := 0, l := [] } : Y).l.length ≤ ((20 * k : Nat) : Int) := by show (0 : Int) + ((0 : Nat) : Int) ≤ _; omega
            have hwt3 : 0 ≤ ({ y with first := 0, l := [] } : Y).waits ∧ ({ y with first := 0, l := [] } : Y).waits ≤ k := hwt
            have hhd3 : 0 ≤ ({ y with first := 0, l := [] } : Y).held ∧ ({ y with first := 0, l := [] } : Y).held ≤ 9 * k := hhd
            generalize ({ y with first := 0, l := [] } : Y) = y3 at *
            generalize ({ x with O := [], P := [] } : R) = x3 at *
            clear pc
            go_upto_region 27 with fail
            rw [← hW5]
            clear hW5 q0 q1 j0 j1 hbx3
            have ps := same_any W5 s3 _ (.slice none 0 0) (.slice none 0 0) _ hS5.sat ok3 hS5.at_ rel3
            rw [e3] at ps
            have hbx5 := hS5.box
            unfold rv rc at ps
            unfold rc at hbx5
            have ps := Lib.hid ps
            have q0 := hbx5.cell 0
            have q1 := hbx5.cell 1
            have q2 := hbx5.cell 2
            have q3 := hbx5.cell 3
            have q4 := hbx5.cell 4
            go_wp2_with fail
            refine ps.out.mono ?_
            rintro e W6 ⟨rfl, hb6⟩
            have hI6 := Lib.hid (show PInv w s.q bx (20 * (k + 1)) (k + 1) W6 from ⟨s3, _, _, _, _, e3, hS5.below hb6, rel3, ok3, by omega, by omega, by omega⟩)
            clear hS5 rel3 ok3 hbx5 q0 q1 q2 q3 q4 ps
            go_wp2_with fail
            go_roundw
            case rel => exact ⟨k + 1, by omega, by omega, by go_num, hI6.out⟩
            case measure => simp [intOf]; omega
          · by_cases k3 : kd = 3
            · subst k3
              have hIn : PIn w s.q bx g (20 * k + 0) k #[.int .i64 3, .int .i64 A, .int .i64 B, .int .i64 n] WO := ⟨s, y, _, _, x, rfl, hO, hRel, hOk, by omega, hwt, hhd, hno, hob⟩
              clear hO hRel hOk hcnt hwt hhd hno hob okx hel
              go_wp2_with fail
              clear c0 c1 c2 c3
              go_loopw [9] (fun jv W => ∃ j : Nat, j ≤ 20 ∧ jv = .int .i64 j ∧ PIn w s.q bx g (20 * k + j) k #[.int .i64 3, .int .i64 A, .int .i64 B, .int .i64 n] W) (fun jv _ => 20 - (intOf jv).toNat)
              case atStart => exact ⟨0, by omega, rfl, hIn⟩
              case round =>
                clear hIn
                obtain ⟨j, hj, rfl, s2, y2, o2, p2, x2, es, hO2, hRel2, hOk2, hcnt2, hwt2, hhd2, hno2, hob2⟩ := hrel
                have hat := hO2.at_
                obtain ⟨⟨ao2, co2, eo, _⟩, ⟨ap2, cp2, ep, _⟩⟩ := hat
                subst eo ep
                have okx := hRel2.ok hOk2
                have hel := Lib.hid (show x2.P.length = x2.O.length by rw [hRel2.lp, hRel2.lo])
                have c1 := hob2.cell 1
                have c2 := hob2.cell 2
                have c3 := hob2.cell 3
                have hj0 : (0 : Int) ≤ (j : Int) := by omega
                by_cases hg2 : (j : Int) < n ∧ j < 20
                · obtain ⟨hj1, hj3⟩ := hg2
                  have hj2 : (j : Int) < 20 := by omega
                  have hcnt' : y2.first + y2.l.length ≤ 2305843009213693951 := by omega
                  obtain ⟨ok3, hc3⟩ := noteY_ok hOk2 A B hcnt'
                  have rel3 := hRel2.note hOk2.2.2.1 A B
                  have pn0 := note_any wr s2 y2 A B hO2.sat hOk2
                  rw [es] at pn0
                  have pn := Lib.hid pn0
                  have pr := Lib.hid (fun W hW => Ref26.note_any W (.slice ao2 x2.O.length co2) (.slice ap2 x2.P.length cp2) x2 A B hW okx hel.out)
                  have hwt3 : 0 ≤ (noteY y2 A B).waits ∧ (noteY y2 A B).waits ≤ k := hwt2
                  have hhd3 : 0 ≤ (noteY y2 A B).held ∧ (noteY y2 A B).held ≤ 9 * k := hhd2
                  clear pn0
                  generalize noteY y2 A B = y3 at *
                  generalize noteX x2 A B = x3 at *
                  unfold rv rc at pr
                  go_wp2_with fail
                  refine pn.out.mono ?_
                  rintro e W3 ⟨rfl, ht3⟩
                  obtain ⟨s3, e3, hS3, hT3, hN3⟩ := hO2.turn ht3
                  have hob3 := hob2.touch hT3 hno2
                  have hno3 := hN3 g hob2.lt hno2
                  have hbx3 := hS3.box
                  unfold rc at hbx3
                  clear c1 c2 c3
                  have c1 := hob3.cell 1
                  have c2 := hob3.cell 2
                  have q0 := hbx3.cell 0
                  have q1 := hbx3.cell 1
                  have q2 := hbx3.cell 2
                  have q3 := hbx3.cell 3
                  have q4 := hbx3.cell 4
                  go_wp2_with fail
                  refine (pr.out _ hS3.at_).mono ?_
                  rintro e W4 ⟨o4, p4, rfl, hr4, hb4, f1, f2⟩
                  have hr4' := hr4
                  obtain ⟨⟨a4, z4, e4, _⟩, ⟨b4, d4, e5, _⟩⟩ := hr4'
                  subst e4 e5
                  have hbx4 := hbx3.below hb4 hbx3.lt
                  have hS5 := hS3.fresh hb4 hr4 f1 f2
                  have hob5 := (hob3.below hb4 hob3.lt).touch (touch5 W4 bx (.slice a4 x3.O.length z4) (.slice b4 x3.P.length d4) x3) (show ¬ g = bx by omega)
                  clear q0 q1 q2 q3 q4 hbx3 c1 c2
                  have q0 := hbx4.cell 0
                  have q1 := hbx4.cell 1
                  have q2 := hbx4.cell 2
                  have q3 := hbx4.cell 3
                  have q4 := hbx4.cell 4
                  have j0 := hbx4.frozen 0
                  have j1 := hbx4.frozen 1
                  have j2 := hbx4.frozen 2
                  have j3 := hbx4.frozen 3
                  have j4 := hbx4.frozen 4
                  obtain ⟨W5, hW5⟩ : ∃ W5, W5 = set5 W4 bx (.slice a4 x3.O.length z4) (.slice b4 x3.P.length d4) x3 := ⟨_, rfl⟩
                  rw [← hW5] at hS5 hob5
                  unfold set5 at hW5
                  clear pr pn
                  unfold rv rc
                  go_upto_region 24 with fail
                  rw [← hW5]
                  have hI6 := Lib.hid (show PIn w s.q bx g (20 * k + (j + 1)) k #[.int .i64 3, .int .i64 A, .int .i64 B, .int .i64 n] W5 from ⟨s3, y3, _, _, x3, e3.trans es, hS5, rel3, ok3, by omega, hwt3, hhd3, hno3, hob5⟩)
                  clear hW5 q0 q1 q2 q3 q4 j0 j1 j2 j3 j4 hbx4 hS5 hob5 rel3 ok3
                  go_wp2_with fail
                  go_roundw
                  case rel => exact ⟨j + 1, by omega, by go_num, hI6.out⟩
                  case measure => simp [intOf]; omega
                · have hnj : ¬ (j : Int) < n ∨ ((j : Int) < n ∧ j = 20) := by
                    by_cases hx : (j : Int) < n
                    · exact .inr ⟨hx, by omega⟩
                    · exact .inl hx
                  clear hg2
                  have hbx5 := hO2.box
                  have ps := same_any wr s2 _ (.slice ao2 x2.O.length co2) (.slice ap2 x2.P.length cp2) _ hO2.sat hOk2 hO2.at_ hRel2
                  rw [es] at ps
                  unfold rv rc at ps
                  unfold rc at hbx5
                  have ps := Lib.hid ps
                  have q0 := hbx5.cell 0
                  have q1 := hbx5.cell 1
                  have q2 := hbx5.cell 2
                  have q3 := hbx5.cell 3
                  have q4 := hbx5.cell 4
                  rcases hnj with hx | ⟨hx, rfl⟩
                  all_goals
                    go_wp2_with fail
                    refine ps.out.mono ?_
                    rintro e W6 ⟨rfl, hb6⟩
                    have hI6 := Lib.hid (show PInv w s.q bx (20 * (k + 1)) (k + 1) W6 from ⟨s2, _, _, _, _, es, hO2.below hb6, hRel2, hOk2, by omega, by omega, by omega⟩)
                    clear hO2 hRel2 hOk2 hbx5 q0 q1 q2 q3 q4 ps
                    go_wp2_with fail
                    go_roundw
                    case rel => exact ⟨k + 1, by omega, by omega, by go_num, hI6.out⟩
                    case measure => simp [intOf]; omega
            · have hI6 := Lib.hid (show PInv w s.q bx (20 * (k + 1)) (k + 1) WO from ⟨s, y, _, _, x, rfl, hO, hRel, hOk, by omega, by omega, by omega⟩)
              have k0' : (kd == 0) = false := by simpa using k0
              have k1' : (kd == 1) = false := by simpa using k1
              have k2' : (kd == 2) = false := by simpa using k2
              have k3' : (kd == 3) = false := by simpa using k3
              clear hO hRel hOk hcnt hwt hhd hno hob okx hel
              go_wp2_with fail
              go_roundw
              case rel => exact ⟨k + 1, by omega, by omega, by go_num, hI6.out⟩
              case measure => simp [intOf]; omega
    · have hno : ¬ (k : Int) < (len : Int) ∨ ((k : Int) < (len : Int) ∧ k = 100) := by
        by_cases hx : (k : Int) < (len : Int)
        · exact .inr ⟨hx, by omega⟩
        · exact .inl hx
      obtain ⟨s, y, o, p, x, rfl, hSt, hRel, hOk, hcnt, hwt, hhd⟩ := hP
      have hbw2 := hSt.bel
      clear hSt hRel hOk hcnt hwt hhd
      clear hgo
      rcases hno with hx | ⟨hx, rfl⟩
      all_goals
        go_wp2_with fail
        go_ret
        exact ⟨rfl, hB0.out.trans (hbw2.mono hB0.out.size)⟩
end Go.Proofs.Ythdppaohagghbaa.Tsync
