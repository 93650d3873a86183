/-
  The walk of backstaylaw21.played. No condition.
-/
import Derived.Test.YthdppaohagghbaaInputqLaw5
import Derived.Test.YthdppaohagghbaaInputqLaw1
namespace Go.Proofs.Ythdppaohagghbaa.InputqP
open Go.RowKit Go.Sort
set_option linter.all false
open Inputq (QAt fpQ TurnedQ S newQ)
open Ref21 (RAt RTo rval qv L)

/-- Calls that came in: a kind, an input, two numbers each. -/
abbrev Op4 := Int × Int × Int × Int
def Ops4 (w : World) (a : Option Addr) (len : Nat) (ops : List Op4) : Prop :=
  ops.length = len ∧ (0 < len → ∃ b off, a = some ⟨b, off, none⟩ ∧ b < w.heap.size ∧ ∀ j x, ops[j]? = some x →
    w.cell? ⟨b, off + j * 4, none⟩ = some (.int .i64 x.1) ∧ w.cell? ⟨b, off + j * 4 + 1, none⟩ = some (.int .u16 x.2.1) ∧ w.cell? ⟨b, off + j * 4 + 2, none⟩ = some (.int .i64 x.2.2.1) ∧ w.cell? ⟨b, off + j * 4 + 3, none⟩ = some (.int .i64 x.2.2.2))
def Ops4Wf (ops : List Op4) : Prop := ∀ x ∈ ops, -9223372036854775808 ≤ x.2.2.1 ∧ x.2.2.1 ≤ 9223372036854775807
theorem Ops4.below {w w' : World} {a : Option Addr} {len : Nat} {ops : List Op4} (h : Ops4 w a len ops) (hb : Below w.heap.size w w') : Ops4 w' a len ops :=
  ⟨h.1, fun hp => by
    obtain ⟨b, off, e, hlt, hc⟩ := h.2 hp
    refine ⟨b, off, e, Nat.lt_of_lt_of_le hlt hb.size, fun j x hx => ?_⟩
    obtain ⟨x0, x1, x2, x3⟩ := hc j x hx
    exact ⟨(hb.cell (p := ⟨b, off + j * 4, none⟩) hlt).trans x0, (hb.cell (p := ⟨b, off + j * 4 + 1, none⟩) hlt).trans x1, (hb.cell (p := ⟨b, off + j * 4 + 2, none⟩) hlt).trans x2, (hb.cell (p := ⟨b, off + j * 4 + 3, none⟩) hlt).trans x3⟩⟩

def y0 : R := ⟨[], [], 0, 0, 0, 0⟩
def Played (w : World) (e : Ending) (W : World) : Prop :=
  (e = .returned (.tuple #[.pointer none, rval (.slice none 0 0) (.slice none 0 0) y0, .bool true]) ∧ Below w.heap.size w W) ∨
  ∃ s x k u y, e = .returned (.tuple #[.pointer (some ⟨s.q, 0, none⟩), rval k u y, .bool true]) ∧ Rel x y ∧ y.K.length ≤ 13000 ∧ y.U.length ≤ 13000 ∧ Bo w.heap.size s x k u y W ∧ Below w.heap.size w W

set_option maxRecDepth 100000 in
set_option maxHeartbeats 4000000 in
theorem played_out (w : World) (d : Int) (a : Option Addr) (len cap : Nat) (hc : d < 0 ∨ 8 < d) :
    Calls Try.prog 20 #[.int .i64 d, .slice a len cap] w fun e w' => Played w e w' := by
  have hn := Lib.hid (fun W => Inputq.new_no d W hc)
  have hres : Blk (w.alloc (.cells qz 37)) w.heap.size 37 qz := Blk.new _ _ _
  obtain ⟨f0, f1, f2, f3, f4, f5⟩ := frs6 hres
  obtain ⟨g0, g1, g2, g3, g4, g5⟩ := cells6 hres
  have hb : Below w.heap.size w (w.alloc (.cells qz 37)) := (Below.refl _ w).alloc (Nat.le_refl _) _
  obtain ⟨W1, hW1⟩ : ∃ W1, W1 = w.alloc (.cells qz 37) := ⟨_, rfl⟩
  rw [← hW1] at f0 f1 f2 f3 f4 f5 g0 g1 g2 g3 g4 g5 hb
  unfold qz at hW1
  clear hres
  rcases hc with hc | hc
  · go_enter Try.func20, Try.ntmps20
    go_upto_region 1 with fail
    rw [← hW1]
    clear hW1
    go_wp2_with fail
    refine (hn.out _).mono ?_
    rintro e w1 ⟨rfl, rfl⟩
    go_wp2_with fail
    refine bodyPost_ret (v := .tuple #[.pointer none, rval (.slice none 0 0) (.slice none 0 0) y0, .bool true]) (by simp [results, rval, qv, y0, Try.results20, go_sem, g0, g1, g2, g3, g4, g5]) rfl (.inl ⟨rfl, ?_⟩)
    repeat (refine Below.setCell ?_ (by simp) _)
    exact hb
  · have h' : ¬ d < 0 := by omega
    go_enter Try.func20, Try.ntmps20
    go_upto_region 1 with fail
    rw [← hW1]
    clear hW1
    go_wp2_with fail
    refine (hn.out _).mono ?_
    rintro e w1 ⟨rfl, rfl⟩
    go_wp2_with fail
    refine bodyPost_ret (v := .tuple #[.pointer none, rval (.slice none 0 0) (.slice none 0 0) y0, .bool true]) (by simp [results, rval, qv, y0, Try.results20, go_sem, g0, g1, g2, g3, g4, g5]) rfl (.inl ⟨rfl, ?_⟩)
    repeat (refine Below.setCell ?_ (by simp) _)
    exact hb

/-- A block apart from all three. -/
def Off (s : S) (k u : Value) (b : Nat) : Prop := ¬ fpQ s b ∧ k.ownBlock ≠ some b ∧ u.ownBlock ≠ some b
theorem Off.fr {s s' : S} {k u k' u' : Value} {W : World} {b : Nat} (h : Off s k u b) (hF : Fr W s k u s' k' u') (hb : b < W.heap.size) : Off s' k' u' b :=
  ⟨fun e => (hF.1 b e).elim h.1 (by omega), fun e => (hF.2.1 b e).elim h.2.1 (by omega), fun e => (hF.2.2 b e).elim h.2.2 (by omega)⟩
/-- Between two rounds. -/
def PInv (w : World) (q b9 : Nat) (j : Nat) (wr : World) : Prop :=
  ∃ s x k u y, s.q = q ∧ Rel x y ∧ y.K.length ≤ 8 + 300 * j ∧ y.U.length ≤ 300 * j ∧ Bo w.heap.size s x k u y wr ∧ Below w.heap.size w wr ∧ QB wr b9 k u y ∧ Off s k u b9 ∧ w.heap.size < b9 ∧
    Blk wr w.heap.size 37 qz ∧ Off s k u w.heap.size

theorem PInv.bel {w wr wr' : World} {q b9 j : Nat} (h : PInv w q b9 j wr) (hb : Below wr.heap.size wr wr') (_ : True) : PInv w q b9 j wr' := by
  obtain ⟨s, x, k, u, y, hq, hr, hK, hU, hbo, hBw, hbx, ho9, h9, hrs, ho5⟩ := h
  exact ⟨s, x, k, u, y, hq, hr, hK, hU, hbo.bel hb, hBw.trans (hb.mono hBw.size), Blk.below hbx hb (Blk.lt hbx), ho9, h9, hrs.below hb hrs.lt, ho5⟩

/-- Behind a call of do, ahead of the look. -/
def PMid (w : World) (q b9 j : Nat) (pv okv : Value) (wx : World) : Prop :=
  ∃ s x k u y bn k' u' y', pv = .pointer (some ⟨bn, 0, none⟩) ∧ okv = .bool true ∧ s.q = q ∧ Rel x y ∧ y.K.length ≤ 8 + 300 * j ∧ y.U.length ≤ 300 * j ∧ Bo w.heap.size s x k u y wx ∧ Below w.heap.size w wx ∧ QB wx bn k u y ∧ b9 < bn ∧ QB wx b9 k' u' y' ∧ Off s k u b9 ∧ w.heap.size < b9 ∧
    Blk wx w.heap.size 37 qz ∧ Off s k u w.heap.size
/-- What a call of do leaves as it was: whether the new box was laid ahead of it or not. -/
theorem step10 {w wr W W3 : World} {s : S} {x : Q} {k u : Value} {y : R} {b9 : Nat} (hbo : Bo w.heap.size s x k u y wr) (hBw : Below w.heap.size w wr) (hbx : QB wr b9 k u y) (hrs : Blk wr w.heap.size 37 qz) (ho9 : Off s k u b9) (ho5 : Off s k u w.heap.size)
    (T3 : Touch (fpQ s) W W3) (hW : W = wr.drew ∨ W = (wr.alloc (.cells qz 37)).drew) :
    QB W3 b9 k u y ∧ Blk W3 w.heap.size 37 qz ∧ (∀ b j, b < w.heap.size → b < wr.heap.size → W3.cell? ⟨b, j, none⟩ = wr.cell? ⟨b, j, none⟩) ∧ (W = (wr.alloc (.cells qz 37)).drew → Blk W3 wr.heap.size 37 qz) := by
  have hb : Below wr.heap.size wr W := by
    rcases hW with rfl | rfl
    · exact (Below.refl _ _).drew
    · exact ((Below.refl _ _).alloc (Nat.le_refl _) _).drew
  refine ⟨Blk.touch (Blk.below hbx hb (Blk.lt hbx)) T3 ho9.1, Blk.touch (hrs.below hb hrs.lt) T3 ho5.1, fun b j h1 h2 => ?_, fun e => ?_⟩
  · exact (Touch.cell T3 (p := ⟨b, j, none⟩) (by show b < W.heap.size; have := hb.size; omega) (fun e => by have := hbo.far b e; omega)).trans (hb.cell (p := ⟨b, j, none⟩) h2)
  · subst e
    exact Blk.touch (Blk.drew (Blk.new wr _ _)) T3 (fun e => by have := hbo.lt3.1 _ e; omega)

theorem QB.set6' {w : World} {b : Nat} (h : Blk w b 37 qz) (k' u' : Value) (y' : R) : QB ((((((w.setCell ⟨b, 0, none⟩ k').setCell ⟨b, 1, none⟩ u').setCell ⟨b, 2, none⟩ (.int .i64 y'.fk)).setCell ⟨b, 3, none⟩ (.int .i64 y'.fu)).setCell ⟨b, 4, none⟩ (.int .u16 y'.last)).setCell ⟨b, 5, none⟩ (.int .i64 y'.wrong)) b k' u' y' :=
  (((((Blk.set_ h 0 k').set_ 1 u').set_ 2 (.int .i64 y'.fk)).set_ 3 (.int .i64 y'.fu)).set_ 4 (.int .u16 y'.last)).set_ 5 (.int .i64 y'.wrong)
theorem mid10 {w wr W W3 wx : World} {s s3 : S} {x x3 : Q} {k u k3 u3 : Value} {y y3 : R} {b9 bn q j : Nat} (hbo : Bo w.heap.size s x k u y wr) (hBw : Below w.heap.size w wr) (hbx : QB wr b9 k u y) (hrs : Blk wr w.heap.size 37 qz) (ho9 : Off s k u b9) (ho5 : Off s k u w.heap.size) (h9 : w.heap.size < b9)
    (T3 : Touch (fpQ s) W W3) (hW : W = wr.drew ∨ W = (wr.alloc (.cells qz 37)).drew) (hq : s3.q = q) (hr : Rel x3 y3) (hK : y3.K.length ≤ 8 + 300 * j) (hU : y3.U.length ≤ 300 * j) (h3 : Bo w.heap.size s3 x3 k3 u3 y3 W3) (F3 : Fr W s k u s3 k3 u3)
    (hT : Touch (fun b => b = bn) W3 wx) (hn : QB wx bn k3 u3 y3) (hbn : wr.heap.size ≤ bn) (hob : Off s3 k3 u3 bn) : PMid w q b9 j (.pointer (some ⟨bn, 0, none⟩)) (.bool true) wx := by
  obtain ⟨hbx3, hrs3, _, _⟩ := step10 hbo hBw hbx hrs ho9 ho5 T3 hW
  have hb : Below wr.heap.size wr W := by
    rcases hW with rfl | rfl
    · exact (Below.refl _ _).drew
    · exact ((Below.refl _ _).alloc (Nat.le_refl _) _).drew
  have l9 := Blk.lt hbx
  have l5 := hrs.lt
  have hs := hb.size
  have hs0 := hbo.size
  have hBW3 : Below w.heap.size w W3 := (hBw.trans (hb.mono hs0)).trans (T3.below (by omega) hbo.far)
  refine ⟨s3, x3, k3, u3, y3, bn, k, u, y, rfl, rfl, hq, hr, hK, hU, h3.touch hT ?_, hBW3.trans (hT.below hBW3.size (fun b e => by omega)), hn, by omega, Blk.touch hbx3 hT (show ¬ b9 = bn by omega), ho9.fr F3 (by omega), h9, hrs3.touch hT (show ¬ w.heap.size = bn by omega), ho5.fr F3 (by omega)⟩
  rintro b rfl
  exact hob

set_option maxRecDepth 100000 in
set_option maxHeartbeats 8000000 in
theorem played_in (w : World) (d : Nat) (a : Option Addr) (len cap : Nat) (ops : List Op4) (hd : d ≤ 8) (hops : Ops4 w a len ops) (hwf : Ops4Wf ops) :
    Calls Try.prog 20 #[.int .i64 d, .slice a len cap] w fun e w' => Played w e w' := by
  have d1 : ¬ (d : Int) < 0 := by omega
  have d2 : ¬ 8 < (d : Int) := by omega
  have hn := Lib.hid (fun W => Inputq.new_ok d W hd)
  have hr := fun W => Ref21.new_any W d hd
  have hres : Blk (w.alloc (.cells qz 37)) w.heap.size 37 qz := Blk.new _ _ _
  have hb : Below w.heap.size w (w.alloc (.cells qz 37)) := (Below.refl _ w).alloc (Nat.le_refl _) _
  have hzz : (w.alloc (.cells qz 37)).heap.size = w.heap.size + 1 := by simp
  obtain ⟨W1, hW1⟩ : ∃ W1, W1 = w.alloc (.cells qz 37) := ⟨_, rfl⟩
  rw [← hW1] at hb hres hzz
  unfold qz at hW1
  have HZ := Lib.hid hzz
  have hzl : w.heap.size < W1.heap.size := by omega
  clear hzz
  obtain ⟨yn, hyn⟩ : ∃ yn : R, yn = { K := List.replicate d 0, U := [], fk := 0, fu := 0, last := 0, wrong := -1 } := ⟨_, rfl⟩
  rw [← hyn] at hr
  have hr := Lib.hid hr
  have HYN := Lib.hid hyn
  have lk : yn.K.length = d := by rw [hyn]; simp
  have lu : yn.U.length = 0 := by rw [hyn]; simp
  have hrel0 : Rel (newQ d (List.replicate d 0)) yn := by rw [hyn]; exact ⟨rfl, by simp [newQ], rfl, by simp [newQ], rfl, rfl, by simp, by simp, by simp; omega, by simp, by simp, by simp⟩
  have LK := Lib.hid lk
  have LU := Lib.hid lu
  clear lk lu hyn
  go_enter Try.func20, Try.ntmps20
  go_upto_region 1 with fail
  rw [← hW1]
  clear hW1
  go_wp2_with fail
  refine (hn.out _).mono ?_
  rintro e w1 ⟨q, rfl, s1, hq1, hQ1, hB1, hF1⟩
  go_wp2_with fail
  refine (hr.out _).mono ?_
  rintro e w2 ⟨k2, u2, rfl, hR2, hB2, hk2, hu2⟩
  obtain ⟨a2, c2, rfl, _⟩ := hR2.1.slice
  obtain ⟨b2, e2, rfl, _⟩ := hR2.2.slice
  dsimp only [rval, qv, id]
  have hlt1 : ∀ b, fpQ s1 b → b < w1.heap.size := fp_lt hQ1
  have hz1 := hB1.size
  have hz2 := hB2.size
  have hQ2 : QAt w2 s1 (newQ d (List.replicate d 0)) := hQ1.touch (Touch.of_below (S := noB) hB2) (fun _ _ hn => hn)
  have hko : ∀ b, (Value.slice a2 yn.K.length c2).ownBlock = some b → w1.heap.size ≤ b := fun b hb => (hk2 b hb).elim (fun e => by simp [Value.ownBlock] at e) id
  have huo : ∀ b, (Value.slice b2 yn.U.length e2).ownBlock = some b → w1.heap.size ≤ b := fun b hb => (hu2 b hb).elim (fun e => by simp [Value.ownBlock] at e) id
  have hbo2 : Bo w.heap.size s1 (newQ d (List.replicate d 0)) (.slice a2 yn.K.length c2) (.slice b2 yn.U.length e2) yn w2 :=
    ⟨hQ2, hR2, fun b hb => by have := hF1 b hb; omega, fun b hb => ⟨by have := hko b hb; omega, fun hs => by have := hlt1 b hs; have := hko b hb; omega⟩, fun b hb => ⟨by have := huo b hb; omega, fun hs => by have := hlt1 b hs; have := huo b hb; omega⟩, by omega⟩
  have hbo3 := hbo2.bel ((Below.refl _ w2).alloc (Nat.le_refl _) (.cells (qc (.slice a2 yn.K.length c2) (.slice b2 yn.U.length e2) yn) 37))
  have hbx3 : QB (w2.alloc (.cells (qc (.slice a2 yn.K.length c2) (.slice b2 yn.U.length e2) yn) 37)) w2.heap.size (.slice a2 yn.K.length c2) (.slice b2 yn.U.length e2) yn := Blk.new _ _ _
  have hrs3 := ((hres.below hB1 hres.lt).below hB2 (by have := hres.lt; omega)).alloc (.cells (qc (.slice a2 yn.K.length c2) (.slice b2 yn.U.length e2) yn) 37)
  have hBw3 : Below w.heap.size w (w2.alloc (.cells (qc (.slice a2 yn.K.length c2) (.slice b2 yn.U.length e2) yn) 37)) := ((hb.trans (hB1.mono (by omega))).trans (hB2.mono (by omega))).alloc (by omega) _
  have hinv : PInv w q w2.heap.size 0 (w2.alloc (.cells (qc (.slice a2 yn.K.length c2) (.slice b2 yn.U.length e2) yn) 37)) :=
    ⟨s1, _, _, _, yn, hq1, hrel0, by rw [LK.out]; omega, by rw [LU.out]; omega, hbo3, hBw3, hbx3, ⟨fun e => by have := hlt1 _ e; omega, fun e => by have := On.lt hR2.1 _ e; omega, fun e => by have := On.lt hR2.2 _ e; omega⟩, by omega, hrs3, ⟨fun e => by have := hF1 _ e; omega, fun e => by have := hko _ e; omega, fun e => by have := huo _ e; omega⟩⟩
  have pD := Inputq.delay_any _ s1 _ hbo3.q
  have pS := same_any _ a2 b2 c2 e2 hbo3 hrel0 (by rw [LK.out]; omega) (by rw [LU.out]; omega)
  rw [hq1] at pD pS
  unfold rval qv at pS
  unfold qc at pD pS hinv hbx3
  dsimp only [newQ] at pD
  obtain ⟨k0, k1, k2', k3, k4, k5⟩ := hbx3.cells
  have pD := Lib.hid pD
  have pS := Lib.hid pS
  clear hbo3 hbx3 hrs3 hBw3 hbo2 hrel0 hq1 hk2 hu2
  go_wp2_with fail
  refine pD.out.mono ?_
  rintro e w3 ⟨rfl, rfl⟩
  go_wp2_with fail
  refine pS.out.mono ?_
  rintro e w4 ⟨rfl, hB4⟩
  go_wp2_with fail
  have hinv4 : PInv w q w2.heap.size 0 w4 := hinv.bel hB4 trivial
  clear hinv k0 k1 k2' k3 k4 k5 pD pS hn hr hB4 HYN LK LU hres hb HZ hQ1 hB1 hF1 hB2 hR2 hlt1 hz1 hz2 hQ2 hko huo d1 d2
  go_loopw [10] (fun iv wr => ∃ k : Nat, k ≤ 40 ∧ iv = .int .i64 k ∧ PInv w q w2.heap.size k wr) (fun iv _ => 40 - (intOf iv).toNat)
  case atStart => exact ⟨0, by omega, rfl, hinv4⟩
  case round =>
    clear hinv4
    obtain ⟨k, hk, rfl, s, x, kv, uv, y, rfl, hrel, hK, hU, hbo, hBw, hbx, ho9, h9, hrs, ho5⟩ := hrel
    have hz9 := hbx.lt
    have hs0 := hbo.size
    have hK1 := Lib.hid hK
    have hU1 := Lib.hid hU
    obtain ⟨a1, c1, b1, e1, rfl, rfl⟩ := hbo.slices
    obtain ⟨k0, k1, k2, k3, k4, k5⟩ := hbx.cells
    obtain ⟨j0, j1, j2, j3, j4, j5⟩ := frs6 hbx
    by_cases hgo : k < len ∧ k < 40
    · obtain ⟨hlt, h40⟩ := hgo
      have hlt' : (k : Int) < (len : Int) := by omega
      have h40' : (k : Int) < 40 := by omega
      obtain ⟨op, hx⟩ : ∃ op, ops[k]? = some op := ⟨ops[k]'(by rw [hops.1]; exact hlt), by simp [hops.1, hlt]⟩
      have hxw := hwf op (List.mem_of_getElem? hx)
      obtain ⟨b, off, rfl, hb, hcell⟩ := hops.2 (by omega)
      obtain ⟨u0, u1, u2, u3⟩ := hcell k op hx
      replace u0 := (hBw.cell (p := ⟨b, off + k * 4, none⟩) hb).trans u0
      replace u1 := (hBw.cell (p := ⟨b, off + k * 4 + 1, none⟩) hb).trans u1
      replace u2 := (hBw.cell (p := ⟨b, off + k * 4 + 2, none⟩) hb).trans u2
      replace u3 := (hBw.cell (p := ⟨b, off + k * 4 + 3, none⟩) hb).trans u3
      obtain ⟨kd, i, n, o⟩ := op
      dsimp only at u0 u1 u2 u3 hxw
      have hi0 : (0 : Int) ≤ (k : Int) := by omega
      clear hcell hx
      have pD := fun W (hW : Below wr.heap.size wr W) => do_any W a1 b1 c1 e1 kd i n o (hbo.bel hW) hrel (by omega) (by omega) (by omega)
      unfold rval qv ov oc at pD
      have pD1 := Lib.hid pD
      have hob : ¬ b = w2.heap.size := by omega
      have hob2 : ¬ wr.heap.size = b := by omega
      have hob3 : ¬ wr.heap.size = w2.heap.size := by omega
      have hlt3 := hbo.lt3
      clear pD j0 j1 j2 j3 j4 j5
      go_upto_region 10 with fail
      go_cut [11, 12] (fun pv okv wx => PMid w s.q w2.heap.size (k + 1) pv okv wx)
      case first =>
        go_region_held3 (fun w' => w'.cell? ⟨w2.heap.size, 0, none⟩ = some (.slice a1 y.K.length c1) ∧ w'.cell? ⟨w2.heap.size, 1, none⟩ = some (.slice b1 y.U.length e1) ∧ w'.cell? ⟨w2.heap.size, 2, none⟩ = some (.int .i64 y.fk) ∧ w'.cell? ⟨w2.heap.size, 3, none⟩ = some (.int .i64 y.fu) ∧ w'.cell? ⟨w2.heap.size, 4, none⟩ = some (.int .u16 y.last) ∧ w'.cell? ⟨w2.heap.size, 5, none⟩ = some (.int .i64 y.wrong) ∧
            w'.cell? ⟨b, off + k * 4, none⟩ = some (.int .i64 kd) ∧ w'.cell? ⟨b, off + k * 4 + 1, none⟩ = some (.int .u16 i) ∧ w'.cell? ⟨b, off + k * 4 + 2, none⟩ = some (.int .i64 n) ∧ w'.cell? ⟨b, off + k * 4 + 3, none⟩ = some (.int .i64 o))
          (first | go_keep | exact ⟨d0, d1, d2, d3, d4, d5, d6, d7, d8, d9⟩ | (go_split_ands; refine ⟨?_, ?_, ?_, ?_, ?_, ?_, ?_, ?_, ?_, ?_⟩ <;> first | go_keep | trace_state))
          ((go_at_call 81; refine (pD1.out _ (by first | exact ((Below.refl _ _).alloc (Nat.le_refl _) _).drew | exact (Below.refl _ _).drew)).mono ?_; rintro e W3 ⟨x3, y3, hr3, hK3, hU3, s3, k3v, u3v, rfl, hq3, h3, T3, F3⟩; obtain ⟨a3, c3, b3, f3, rfl, rfl⟩ := h3.slices; dsimp only [rval, qv]; obtain ⟨hbx3, hrs3, hTb, hnew⟩ := step10 hbo hBw hbx hrs ho9 ho5 T3 (by first | exact .inl rfl | exact .inr rfl); obtain ⟨d0, d1, d2, d3, d4, d5⟩ := QB.cells hbx3; have d6 := (hTb b _ (by omega) (by omega)).trans u0; have d7 := (hTb b _ (by omega) (by omega)).trans u1; have d8 := (hTb b _ (by omega) (by omega)).trans u2; have d9 := (hTb b _ (by omega) (by omega)).trans u3; try obtain ⟨n0, n1, n2, n3, n4, n5⟩ := frs6 (hnew rfl); try obtain ⟨m0, m1, m2, m3, m4, m5⟩ := cells6 (hnew rfl)))
        all_goals
          go_wp2_with fail
          go_meet
          first
            | (refine mid10 hbo hBw hbx hrs ho9 ho5 h9 T3 (.inr rfl) hq3 hr3 (by have := hK1.out; omega) (by have := hU1.out; omega) h3 F3 (bn := wr.heap.size) ?_ (QB.set6' (hnew rfl) _ _ y3) (by omega) ?_
               · repeat (refine Touch.setCell ?_ (Or.inl (by dsimp only)) _)
                 exact Touch.refl _ _
               · exact Off.fr ⟨fun e => by have := hlt3.1 _ e; omega, fun e => by have := hlt3.2.1 _ e; omega, fun e => by have := hlt3.2.2 _ e; omega⟩ F3 (by simp))
            | (refine mid10 hbo hBw hbx hrs ho9 ho5 h9 T3 (.inl rfl) hq3 hr3 (by have := hK1.out; omega) (by have := hU1.out; omega) h3 F3 (bn := W3.heap.size) ?_ (Blk.new _ _ _) (by have := T3.size; simp at this; omega) ?_
               · exact (Touch.refl _ _).alloc _
               · have hl3 := h3.lt3
                 exact ⟨fun e => by have := hl3.1 _ e; omega, fun e => by have := hl3.2.1 _ e; omega, fun e => by have := hl3.2.2 _ e; omega⟩)
      case rest =>
        obtain ⟨s6, x6, k6, u6', y6, bn, k7, u7, y7, rfl, rfl, hq6, hr6, hK6, hU6, hbo6, hBw6, hbn6, h96, hb96, ho96, _, hrs6, ho56⟩ := hcut
        obtain ⟨a6, c6, b6, e6, rfl, rfl⟩ := hbo6.slices
        obtain ⟨d0, d1, d2, d3, d4, d5⟩ := hbn6.cells
        obtain ⟨f0, f1, f2, f3, f4, f5⟩ := frs6 hb96
        have pS := same_any wc a6 b6 c6 e6 hbo6 hr6 (by omega) (by omega)
        rw [hq6] at pS
        unfold rval qv at pS
        have pS6 := Lib.hid pS
        have HQ6 := Lib.hid hq6
        clear pS hq6 k0 k1 k2 k3 k4 k5 u0 u1 u2 u3
        clear f0 f1 f2 f3 f4 f5
        go_wp2_with fail
        refine pS6.out.mono ?_
        rintro e w7 ⟨rfl, hB7⟩
        clear d0 d1 d2 d3 d4 d5
        have hbn7 : QB w7 bn _ _ y6 := Blk.below hbn6 hB7 (Blk.lt hbn6)
        have hb97 : QB w7 w2.heap.size _ _ y7 := Blk.below hb96 hB7 (Blk.lt hb96)
        have hrs7 := hrs6.below hB7 hrs6.lt
        obtain ⟨d0, d1, d2, d3, d4, d5⟩ := hbn7.cells
        obtain ⟨f0, f1, f2, f3, f4, f5⟩ := frs6 hb97
        obtain ⟨g0, g1, g2, g3, g4, g5⟩ := hb97.cells
        have ne9 : ¬ bn = w2.heap.size := by omega
        have ne8 : ¬ w2.heap.size = bn := by omega
        have hl7 := hB7.size
        go_wp2_with fail
        go_roundw
        case rel =>
          refine ⟨k + 1, by omega, by go_num, s6, x6, _, _, y6, HQ6.out, hr6, hK6, hU6, (hbo6.bel hB7).touch (T := fun b => b = w2.heap.size) ?_ ?_, ?_, QB.set6 hb97 _ _ y6, ho96, h9, ?_, ho56⟩
          · repeat (refine Touch.setCell ?_ (Or.inl (by dsimp only)) _)
            exact Touch.refl _ _
          · rintro b rfl
            exact ho96
          · repeat (refine Below.setCell ?_ (by dsimp only; omega) _)
            exact hBw6.trans (hB7.mono hBw6.size)
          · repeat (refine Blk.far ?_ (by dsimp only; omega) _)
            exact hrs7
        case measure => simp [intOf]; omega
    · have hno1 : ¬ (k : Int) < (len : Int) ∨ ((k : Int) < (len : Int) ∧ k = 40) := by
        by_cases hx : (k : Int) < (len : Int)
        · exact .inr ⟨hx, by omega⟩
        · exact .inl hx
      clear hgo
      obtain ⟨f0, f1, f2, f3, f4, f5⟩ := frs6 hrs
      obtain ⟨g0, g1, g2, g3, g4, g5⟩ := cells6 hrs
      have ne9 : ¬ w.heap.size = w2.heap.size := by omega
      have ne8 : ¬ w2.heap.size = w.heap.size := by omega
      clear hr pS
      have hend : ∀ wf, Touch (fun b => b = w.heap.size) wr wf → Played w (.returned (.tuple #[.pointer (some ⟨s.q, 0, none⟩), rval (.slice a1 y.K.length c1) (.slice b1 y.U.length e1) y, .bool true])) wf := by
        intro wf hT
        refine .inr ⟨s, x, _, _, y, rfl, hrel, by omega, by omega, hbo.touch hT ?_, hBw.trans (hT.below hBw.size (fun b e => by omega))⟩
        rintro b rfl
        exact ho5
      have hend := Lib.hid hend
      rcases hno1 with hx | ⟨hx, rfl⟩
      all_goals
        go_wp2_with fail
        go_region
        all_goals
          go_wp2_with fail
          refine bodyPost_ret (v := .tuple #[.pointer (some ⟨s.q, 0, none⟩), rval (.slice a1 y.K.length c1) (.slice b1 y.U.length e1) y, .bool true]) (by simp [results, rval, qv, Try.results20, go_sem, g0, g1, g2, g3, g4, g5]) rfl ?_
          refine hend.out _ ?_
          refine Touch.drew ?_
          repeat (refine Touch.setCell ?_ (Or.inl (by dsimp only)) _)
          exact Touch.refl _ _

theorem played_any (w : World) (d : Int) (a : Option Addr) (len cap : Nat) (ops : List Op4) (hops : Ops4 w a len ops) (hwf : Ops4Wf ops) :
    Calls Try.prog 20 #[.int .i64 d, .slice a len cap] w fun e w' => Played w e w' := by
  by_cases h : d < 0 ∨ 8 < d
  · exact played_out w d a len cap h
  · obtain ⟨n, rfl⟩ : ∃ n : Nat, d = (n : Int) := ⟨d.toNat, by omega⟩
    exact played_in w n a len cap ops (by omega) hops hwf

set_option maxRecDepth 100000 in
set_option maxHeartbeats 2000000 in
theorem plays_law (d : Int) (a : Option Addr) (len cap : Nat) (ops : List Op4) (w : World) (h : Ops4 w a len ops) (hwf : Ops4Wf ops) :
    Calls Try.prog 4 #[.int .i64 d, .slice a len cap] w fun e w' => e = .returned (.bool true) ∧ Below w.heap.size w w' := by
  go_enter Try.func4, Try.ntmps4
  go_wp2_with fail
  refine (Inputq.awake_any _).mono ?_
  rintro e w1 ⟨rfl, hb⟩
  go_wp2_with fail
  refine (played_any w1 d a len cap ops (h.below hb) hwf).mono ?_
  rintro e w2 (⟨rfl, hb2⟩ | ⟨s, x, k, u, y, rfl, hr, hK, hU, hbo, hb2⟩)
  · dsimp only [rval, qv]
    go_wp2_with fail
    go_ret
    refine ⟨rfl, ?_⟩
    first | exact hb.trans (hb2.mono hb.size) | exact (hb.trans (hb2.mono hb.size)).alloc (by have := hb.size; have := hb2.size; omega) _
  · obtain ⟨a1, c1, b1, e1, rfl, rfl⟩ := hbo.slices
    dsimp only [rval, qv]
    go_wp2_with fail
    go_ret
    refine ⟨rfl, ?_⟩
    first | exact hb.trans (hb2.mono hb.size) | exact (hb.trans (hb2.mono hb.size)).alloc (by have := hb.size; have := hb2.size; omega) _
end Go.Proofs.Ythdppaohagghbaa.InputqP
