/-
  The walk of backstaylaw26.TsyncOne. No condition.
-/
import Derived.Test.YthdppaohagghbaaTsyncLaw1
namespace Go.Proofs.Ythdppaohagghbaa.Tsync
open Go.RowKit
open RingNote (NT At fp Turned putF putL)
open Num
set_option linter.all false

/-- Calls that came in: a kind and three numbers each. -/
abbrev Op4 := Int × Int × Int × Int
def Ops4 (w : World) (a : Option Addr) (len : Nat) (ops : List Op4) : Prop :=
  ops.length = len ∧ (0 < len → ∃ b off, a = some ⟨b, off, none⟩ ∧ b < w.heap.size ∧ ∀ j x, ops[j]? = some x →
    w.cell? ⟨b, off + j * 4, none⟩ = some (.int .i64 x.1) ∧ w.cell? ⟨b, off + j * 4 + 1, none⟩ = some (.int .i64 x.2.1) ∧ w.cell? ⟨b, off + j * 4 + 2, none⟩ = some (.int .i64 x.2.2.1) ∧ w.cell? ⟨b, off + j * 4 + 3, none⟩ = some (.int .i64 x.2.2.2))
theorem Ops4.below {w w' : World} {a : Option Addr} {len : Nat} {ops : List Op4} (h : Ops4 w a len ops) (hb : Below w.heap.size w w') : Ops4 w' a len ops :=
  ⟨h.1, fun hp => by
    obtain ⟨b, off, e, hlt, hc⟩ := h.2 hp
    refine ⟨b, off, e, Nat.lt_of_lt_of_le hlt hb.size, fun j x hx => ?_⟩
    obtain ⟨x0, x1, x2, x3⟩ := hc j x hx
    exact ⟨(hb.cell (p := ⟨b, off + j * 4, none⟩) hlt).trans x0, (hb.cell (p := ⟨b, off + j * 4 + 1, none⟩) hlt).trans x1, (hb.cell (p := ⟨b, off + j * 4 + 2, none⟩) hlt).trans x2, (hb.cell (p := ⟨b, off + j * 4 + 3, none⟩) hlt).trans x3⟩⟩

/-- The other one's notes. -/
def swp (l : List NT) : List NT := l.map (fun x => (x.2, x.1))
def other (y : Y) : Y := ⟨y.first, swp y.l, 0, 0, 0⟩
theorem swp_len (l : List NT) : (swp l).length = l.length := by simp [swp]
theorem aO_swp (l : List NT) : aO (swp l) = aP l := by unfold aO aP; rw [swp_len]; congr 2; simp [swp]
theorem aP_swp (l : List NT) : aP (swp l) = aO l := by unfold aO aP; rw [swp_len]; congr 2; simp [swp]
theorem one_waits (l : List NT) (h : 0 < waitV l) : waitV (swp l) = 0 := by
  have hf : ∀ a b : Int, floorV (a - b) 2 = (a - b) / 2 := fun a b => by unfold floorV; rw [if_neg (by omega)]
  unfold waitV at h ⊢
  rw [aO_swp, aP_swp]
  simp only [hf] at h ⊢
  split at h
  · omega
  · rw [if_pos (by omega)]
theorem other_note (y : Y) (a b : Int) : noteY (other y) b a = other (noteY y a b) := by
  unfold noteY other putF putL
  dsimp only
  rw [swp_len]
  by_cases h : (y.l.length : Int) = 16
  · simp [h, swp]
  · simp [h, swp]
theorem other_ok {y : Y} (h : Ok y) : Ok (other y) := by
  obtain ⟨o1, o2, o3, o4, o5, o6, o7⟩ := h
  refine ⟨o1, by simp [other, swp_len]; omega, by simp [other, swp_len]; omega, ?_, by simp [other], by simp [other], by simp [other]⟩
  intro x hx
  simp only [other, swp, List.mem_map] at hx
  obtain ⟨z, hz, rfl⟩ := hx
  exact ⟨(o4 z hz).2, (o4 z hz).1⟩

/-- Both, in memory of their own. -/
structure Bo (w : World) (sa sb : S) (ya yb : Y) (W : World) : Prop where
  a : SAt W sa ya
  b : SAt W sb yb
  bel : Below w.heap.size w W
  fa : ∀ k, fpS sa k → w.heap.size ≤ k
  fb : ∀ k, fpS sb k → w.heap.size ≤ k
  ne : ∀ k, fpS sa k → ¬ fpS sb k
section
variable {w W W' : World} {sa sb : S} {ya yb y' : Y}
theorem Bo.below (h : Bo w sa sb ya yb W) (hb : Below W.heap.size W W') : Bo w sa sb ya yb W' := ⟨h.a.below hb, h.b.below hb, h.bel.trans (hb.mono h.bel.size), h.fa, h.fb, h.ne⟩
theorem Bo.turnA (h : Bo w sa sb ya yb W) (t : TurnedS W sa y' W') : ∃ s', s'.q = sa.q ∧ Bo w s' sb y' yb W' := by
  obtain ⟨s', e, hq, hT, hF⟩ := t
  refine ⟨s', e, hq, h.b.touch hT (fun k hk hk2 => h.ne k hk2 hk), h.bel.trans (hT.below h.bel.size h.fa), fun k hk => (hF k hk).elim (h.fa k) (fun e => Nat.le_trans h.bel.size e), h.fb, fun k hk hk2 => (hF k hk).elim (fun e => h.ne k e hk2) (fun e => by have := h.b.lt k hk2; omega)⟩
theorem Bo.turnB (h : Bo w sa sb ya yb W) (t : TurnedS W sb y' W') : ∃ s', s'.q = sb.q ∧ Bo w sa s' ya y' W' := by
  obtain ⟨s', e, hq, hT, hF⟩ := t
  refine ⟨s', e, h.a.touch hT (fun k hk hk2 => h.ne k hk hk2), hq, h.bel.trans (hT.below h.bel.size h.fb), h.fa, fun k hk => (hF k hk).elim (h.fb k) (fun e => Nat.le_trans h.bel.size e), fun k hk hk2 => (hF k hk2).elim (fun e => h.ne k hk e) (fun e => by have := h.a.lt k hk; omega)⟩
theorem Bo.cell (h : Bo w sa sb ya yb W) {b o : Nat} (hb : b < w.heap.size) : W.cell? ⟨b, o, none⟩ = w.cell? ⟨b, o, none⟩ := h.bel.cell (p := ⟨b, o, none⟩) hb
end

def OInv (w : World) (qa qb : Nat) (k : Nat) (last total : Int) (W : World) : Prop :=
  ∃ sa sb y, sa.q = qa ∧ sb.q = qb ∧ Bo w sa sb y (other y) W ∧ Ok y ∧ y.first + y.l.length ≤ k ∧ y.next = last + 30 ∧ y.held = total ∧ (0 ≤ y.waits ∧ y.waits ≤ k) ∧ (0 ≤ total ∧ total ≤ 9 * k) ∧ -30 ≤ last ∧ last ≤ 200

set_option maxRecDepth 100000 in
set_option maxHeartbeats 8000000 in
theorem one_law (a : Option Addr) (len cap : Nat) (ops : List Op4) (w0 : World) (hops0 : Ops4 w0 a len ops) :
    Calls Try.prog 6 #[.slice a len cap] w0 fun e w' => e = .returned (.bool true) ∧ Below w0.heap.size w0 w' := by
  go_enter Try.func6, Try.ntmps6
  go_wp2_with fail
  refine (awake_any _).mono ?_
  rintro e w ⟨rfl, hb0⟩
  have hops := hops0.below hb0
  clear hops0
  go_wp2_with fail
  refine (new_any w).mono ?_
  rintro e w1 ⟨sa, rfl, hSa, hB1, hF1⟩
  go_wp2_with fail
  refine (new_any w1).mono ?_
  rintro e w2 ⟨sb, rfl, hSb, hB2, hF2⟩
  obtain ⟨qa, hqa⟩ : ∃ q, q = sa.q := ⟨_, rfl⟩
  obtain ⟨qb, hqb⟩ : ∃ q, q = sb.q := ⟨_, rfl⟩
  rw [← hqa, ← hqb]
  have hz1 := hB1.size
  have hI : OInv w qa qb 0 (-30) 0 w2 := ⟨sa, sb, ⟨0, [], 0, 0, 0⟩, hqa.symm, hqb.symm, ⟨hSa.below hB2, hSb, hB1.trans (hB2.mono hz1), hF1, fun k hk => Nat.le_trans hz1 (hF2 k hk), fun k hk hk2 => by have := hSa.lt k hk; have := hF2 k hk2; omega⟩,
    ⟨by simp, by simp, by simp, by simp, by simp, by simp, by simp⟩, by simp, by simp, rfl, by simp, by simp, by omega, by omega⟩
  have hB0 := Lib.hid hb0
  clear hSa hSb hB1 hB2 hF1 hF2 hqa hqb hz1 hb0
  go_wp2_with fail
  go_loopw [5, 6, 7, 8] (fun fr tot la iv wr => ∃ k : Nat, k ≤ 200 ∧ k ≤ len ∧ iv = .int .i64 k ∧ fr = .int .i64 k ∧ ∃ last total, la = .int .i64 last ∧ tot = .int .i64 total ∧ OInv w qa qb k last total wr) (fun _ _ _ iv _ => 200 - (intOf iv).toNat)
  case atStart => exact ⟨0, by omega, by omega, rfl, rfl, _, _, rfl, rfl, hI⟩
  case round =>
    clear hI
    obtain ⟨k, hk, hkl, rfl, rfl, last, total, rfl, rfl, sa, sb, y, rfl, rfl, hBo, ok, hcnt, hnext, hheld, hwaits, htot, hl1, hl2⟩ := hrel
    by_cases hgo : k < len ∧ k < 200
    · obtain ⟨hlt, h2⟩ := hgo
      have hlt' : (k : Int) < (len : Int) := by omega
      have h2' : (k : Int) < 200 := by omega
      have hi0 : (0 : Int) ≤ (k : Int) := by omega
      obtain ⟨op, hx⟩ : ∃ op, ops[k]? = some op := ⟨ops[k]'(by rw [hops.1]; exact hlt), by simp [hops.1, hlt]⟩
      obtain ⟨b, off, rfl, hb, hcell⟩ := hops.2 (by omega)
      obtain ⟨u0, u1, u2, u3⟩ := hcell k op hx
      obtain ⟨kd, A, B, o⟩ := op
      dsimp only at u0 u1 u2 u3
      clear hcell hx u0 u3
      obtain ⟨ok1, hc1⟩ := noteY_ok ok A B (by omega)
      have hob := other_note y A B
      have pa := fun W (hW : Bo w sa sb y (other y) W) => note_any W sa y A B hW.a ok
      have pb := fun W sa' (hW : Bo w sa' sb (noteY y A B) (other y) W) => note_any W sb (other y) B A hW.b (other_ok ok)
      rw [hob] at pb
      have hn1 : (noteY y A B).next = last + 30 := hnext
      have hn2 : (noteY y A B).held = total := hheld
      have hn3 : (noteY y A B).waits = y.waits := rfl
      have hcnt1 : (noteY y A B).first + (noteY y A B).l.length ≤ (k : Int) + 1 := by omega
      obtain ⟨y1, hy1⟩ : ∃ y1, y1 = noteY y A B := ⟨_, rfl⟩
      rw [← hy1] at ok1 hn1 hn2 hn3 hcnt1 pa pb
      have pa := Lib.hid pa
      have pb := Lib.hid pb
      have HN1 := Lib.hid hn1
      have HN2 := Lib.hid hn2
      have HN3 := Lib.hid hn3
      clear hy1 hob hc1 hcnt hnext hheld hn1 hn2 hn3 ok
      have m1 := (hBo.cell hb).trans u1
      have m2 := (hBo.cell hb).trans u2
      have hwz := hBo.bel.size
      go_wp2_with fail
      go_region_held3 (fun w' => w'.cell? ⟨b, off + k * 4 + 1, none⟩ = some (.int .i64 A) ∧ w'.cell? ⟨b, off + k * 4 + 2, none⟩ = some (.int .i64 B)) (first | go_keep | exact ⟨d1, d2⟩)
        ((go_at_call 28; refine (pa.out _ (by first | exact hBo.below (Below.refl _ _).drew | exact hBo)).mono ?_; rintro e w3 ⟨rfl, ht3⟩; obtain ⟨sa3, e3, hBo3⟩ := (hBo.below (Below.refl _ _).drew).turnA ht3; have d1 := (hBo3.cell hb).trans u1; have d2 := (hBo3.cell hb).trans u2))
      clear m1 m2
      go_wp2_with fail
      go_region_held3 (fun w' => w'.cell? ⟨b, off + k * 4 + 1, none⟩ = some (.int .i64 A) ∧ w'.cell? ⟨b, off + k * 4 + 2, none⟩ = some (.int .i64 B)) (first | go_keep | exact ⟨d1, d2⟩)
        ((go_at_call 28; refine (pb.out _ sa3 (by first | exact hBo3.below (Below.refl _ _).drew | exact hBo3)).mono ?_; rintro e w4 ⟨rfl, ht4⟩; obtain ⟨sb4, e4, hBo4⟩ := (hBo3.below (Below.refl _ _).drew).turnB ht4; have d1 := (hBo4.cell hb).trans u1; have d2 := (hBo4.cell hb).trans u2))
      clear d1 d2
      have pw := wait_any w4 sa3 y1 hBo4.a ok1
      have pv := fun W (hW : Below w4.heap.size w4 W) => wait_any W sb4 (other y1) (hBo4.below hW).b (other_ok ok1)
      have pk := fun W (hW : Below w4.heap.size w4 W) => ask_any W sa3 y1 k (hBo4.below hW).a ok1 (by omega) (by omega)
      rw [e3] at pw pk
      rw [e4] at pv
      have hvb := waitV_bd y1.l
      have hone := one_waits y1.l
      obtain ⟨n, hn⟩ : ∃ n, n = askV y1 k := ⟨_, rfl⟩
      have hnb := askV_bd y1 k
      have hAY : askY y1 k = if n = 0 then y1 else { y1 with next := hold (k + 30), waits := y1.waits + 1, held := y1.held + n } := by unfold askY; rw [hn]
      have hnn : 0 < n → last + 30 ≤ (k : Int) := by
        intro h0
        rw [hn] at h0
        unfold askV at h0
        split at h0
        · omega
        · rename_i hc
          have := HN1.out
          have : ¬ (k : Int) < y1.next := fun e => hc (.inl e)
          omega
      have hoth : other (askY y1 k) = other y1 := by rw [hAY]; split <;> rfl
      have hokA := askY_ok ok1 k (by have := HN3.out; omega) (by have := HN2.out; omega)
      rw [← hn] at pk hnb
      have pk := Lib.hid pk
      have HAY := Lib.hid hAY
      have HOTH := Lib.hid hoth
      have HOKA := Lib.hid hokA
      obtain ⟨hn0, hn9, hn1⟩ := hnb
      have hn1b : (n == 1) = false := by simpa using hn1
      have E3 := Lib.hid e3
      have E4 := Lib.hid e4
      have hlast : (k : Int) - last ≥ 30 ∨ n = 0 := by
        by_cases h0 : 0 < n
        · exact .inl (by have := hnn h0; omega)
        · exact .inr (by omega)
      clear hn hAY hoth hokA hn1 hnn e3 e4
      have hfin : ∀ W5, Below w4.heap.size w4 W5 → ∀ W6, TurnedS W5 sa3 (askY y1 k) W6 → OInv w sa.q sb.q (k + 1) (if n = 0 then last else (k : Int)) (total + n) W6 := by
        intro W5 hb5 W6 ht6
        obtain ⟨s6, e6, hB6⟩ := (hBo4.below hb5).turnA ht6
        have hh := HN2.out
        have hw := HN3.out
        have hx := HN1.out
        refine ⟨s6, sb4, askY y1 k, e6.trans E3.out, E4.out, by rw [HOTH.out]; exact hB6, HOKA.out, ?_, ?_, ?_, ?_, by omega, by split <;> omega, by split <;> omega⟩
        · rw [HAY.out]; split <;> (try dsimp only) <;> omega
        · rw [HAY.out]; split
          · exact hx
          · show hold ((k : Int) + 30) = _
            rw [hold_in (by omega) (by omega)]
        · rw [HAY.out]; split
          · rename_i h0; rw [h0]; omega
          · show y1.held + n = _; rw [hh]
        · rw [HAY.out]; split <;> (try dsimp only) <;> omega
      have HFIN := Lib.hid hfin
      clear hfin
      generalize waitV y1.l = v at pw hvb hone
      obtain ⟨hv0, hv9, hv1⟩ := hvb
      have pw := Lib.hid pw
      by_cases hv : 0 < v
      · rw [show waitV (other y1).l = 0 from hone hv] at pv
        have pv := Lib.hid pv
        clear hone hv1
        go_wp2_with fail
        refine pw.out.mono ?_
        rintro e w5 ⟨rfl, hb5⟩
        go_wp2_with fail
        refine (pv.out _ hb5).mono ?_
        rintro e w6 ⟨rfl, hb6⟩
        have hb56 := hb5.trans (hb6.mono hb5.size)
        go_wp2_with fail
        refine (pk.out _ hb56).mono ?_
        rintro e w7 ⟨rfl, ht7⟩
        have hI7 := HFIN.out _ hb56 _ ht7
        clear HFIN HAY HOTH HOKA pk pw pv ht7
        by_cases hz : n = 0
        · subst hz
          have hI8 := Lib.hid hI7
          clear hI7
          go_wp2_with fail
          go_roundw
          case rel => exact ⟨k + 1, by omega, by omega, by go_num, by go_num, last, total, rfl, rfl, by have := hI8.out; rw [if_pos (by first | rfl | trivial), Int.add_zero] at this; exact this⟩
          case measure => simp [intOf]; omega
        · have hnp : 0 < n := by omega
          have hkl3 : last + 30 ≤ (k : Int) := by omega
          have hI8 := Lib.hid (show OInv w sa.q sb.q (k + 1) (k : Int) (total + n) w7 by rw [if_neg hz] at hI7; exact hI7)
          clear hI7 hz
          go_wp2_with fail
          go_roundw
          case rel => exact ⟨k + 1, by omega, by omega, by go_num, by go_num, (k : Int), total + n, rfl, rfl, hI8.out⟩
          case measure => simp [intOf]; omega
      · obtain rfl : v = 0 := by omega
        clear hone hv1 hv0 hv9 hv
        go_wp2_with fail
        refine pw.out.mono ?_
        rintro e w5 ⟨rfl, hb5⟩
        go_wp2_with fail
        refine (pk.out _ hb5).mono ?_
        rintro e w7 ⟨rfl, ht7⟩
        have hI7 := HFIN.out _ hb5 _ ht7
        clear HFIN HAY HOTH HOKA pk pw pv ht7
        by_cases hz : n = 0
        · subst hz
          have hI8 := Lib.hid hI7
          clear hI7
          go_wp2_with fail
          go_roundw
          case rel => exact ⟨k + 1, by omega, by omega, by go_num, by go_num, last, total, rfl, rfl, by have := hI8.out; rw [if_pos (by first | rfl | trivial), Int.add_zero] at this; exact this⟩
          case measure => simp [intOf]; omega
        · have hnp : 0 < n := by omega
          have hkl3 : last + 30 ≤ (k : Int) := by omega
          have hI8 := Lib.hid (show OInv w sa.q sb.q (k + 1) (k : Int) (total + n) w7 by rw [if_neg hz] at hI7; exact hI7)
          clear hI7 hz
          go_wp2_with fail
          go_roundw
          case rel => exact ⟨k + 1, by omega, by omega, by go_num, by go_num, (k : Int), total + n, rfl, rfl, hI8.out⟩
          case measure => simp [intOf]; omega
    · have hno : ¬ (k : Int) < (len : Int) ∨ ((k : Int) < (len : Int) ∧ k = 200) := by
        by_cases hx : (k : Int) < (len : Int)
        · exact .inr ⟨hx, by omega⟩
        · exact .inl hx
      have ph := heldn_any wr sa y hBo.a
      rw [hheld] at ph
      have ph := Lib.hid ph
      have hbw := hBo.bel
      clear hgo hnext hheld
      rcases hno with hx | ⟨hx, rfl⟩
      all_goals
        go_wp2_with fail
        refine ph.out.mono ?_
        rintro e w5 ⟨rfl, rfl⟩
        go_wp2_with fail
        go_ret
        exact ⟨rfl, hB0.out.trans (hbw.mono hB0.out.size)⟩
end Go.Proofs.Ythdppaohagghbaa.Tsync
