/-
  The walk of backstaylaw09.RingKeeps. No condition.
-/
import Derived.Test.YtmipapfanelheaaRingLaw2
namespace Go.Proofs.Ytmipapfanelheaa
open Go.RowKit
set_option linter.all false
namespace RingK
open RingInt

/-- How many have gone, and what is kept, when k more were put. -/
def gone (R : Nat) (l zs : List Int) (k : Nat) : Nat := l.length + k - R
def kept (R : Nat) (l zs : List Int) (k : Nat) : List Int := (l ++ zs.take k).drop (gone R l zs k)

theorem kept_len {R : Nat} {l zs : List Int} {k : Nat} (hk : k ≤ zs.length) : (kept R l zs k).length = l.length + k - gone R l zs k := by
  unfold kept; rw [List.length_drop, List.length_append, List.length_take, Nat.min_eq_left hk]
theorem kept_zero {R : Nat} {l zs : List Int} (h : l.length ≤ R) : gone R l zs 0 = 0 ∧ kept R l zs 0 = l := by
  have : gone R l zs 0 = 0 := by unfold gone; omega
  exact ⟨this, by unfold kept; rw [this]; simp⟩
theorem take_succ' {zs : List Int} {k : Nat} (hk : k < zs.length) : zs.take (k + 1) = zs.take k ++ [nth zs k] := by
  rw [List.take_add_one]; simp [nth, List.getD, hk]
theorem drop_app (u v : List Int) (n : Nat) (h : n ≤ u.length) : (u ++ v).drop n = u.drop n ++ v := by rw [List.drop_append_of_le_length h]
theorem kept_succ {R : Nat} {l zs : List Int} {k : Nat} (hR : 1 ≤ R) (hk : k < zs.length) (hl : l.length ≤ R) :
    (putF (R : Int) 0 (kept R l zs k) + (gone R l zs k : Int) = (gone R l zs (k + 1) : Int)) ∧ putL (R : Int) (kept R l zs k) (nth zs k) = kept R l zs (k + 1) := by
  have hlen := kept_len (R := R) (l := l) (zs := zs) (k := k) (by omega)
  by_cases h : l.length + k < R
  · have g0 : gone R l zs k = 0 := by unfold gone; omega
    have g1 : gone R l zs (k + 1) = 0 := by unfold gone; omega
    have hne : ¬ ((kept R l zs k).length : Int) = (R : Int) := by rw [hlen, g0]; omega
    refine ⟨by unfold putF; rw [if_neg hne, g0, g1]; rfl, ?_⟩
    unfold putL; rw [if_neg hne]
    unfold kept; rw [g0, g1, take_succ' hk]; simp
  · have g0 : gone R l zs (k + 1) = gone R l zs k + 1 := by unfold gone; omega
    have g9 : gone R l zs k ≤ l.length + k := by unfold gone; omega
    have he : ((kept R l zs k).length : Int) = (R : Int) := by rw [hlen]; unfold gone; omega
    refine ⟨by unfold putF; rw [if_pos he, g0]; omega, ?_⟩
    unfold putL; rw [if_pos he]
    unfold kept
    rw [g0, take_succ' hk, List.drop_drop, ← List.append_assoc, drop_app (l ++ zs.take k) [nth zs k] (gone R l zs k + 1) (by rw [List.length_append, List.length_take, Nat.min_eq_left (by omega)]; unfold gone; omega)]
theorem putF_add {room f : Int} {l : List Int} {d : Int} : putF room (f + d) l = f + (putF room 0 l + d) := by unfold putF; split <;> omega
theorem kept_le {R : Nat} {l zs : List Int} {k : Nat} (hk : k ≤ zs.length) : (kept R l zs k).length ≤ R := by rw [kept_len hk]; unfold gone; omega
theorem nth_kept {R : Nat} {l zs : List Int} {i : Nat} (hi : i < zs.length) (h : gone R l zs zs.length ≤ l.length + i) : nth (kept R l zs zs.length) (l.length + i - gone R l zs zs.length) = nth zs i := by
  unfold kept nth
  rw [List.take_length, List.getD, List.getD, List.getElem?_drop, show gone R l zs zs.length + (l.length + i - gone R l zs zs.length) = l.length + i by omega, List.getElem?_append_right (by omega)]
  simp

set_option maxRecDepth 100000 in
set_option maxHeartbeats 4000000 in
theorem ring_keeps (room : Int) (a : Option Addr) (len cap : Nat) (ops : List (Int × Int × Int)) (a3 : Option Addr) (n3 c3 : Nat) (zs : List Int) (w : World) (h : Ops w a len ops) (hwf : OpsWf ops) (hz : Row .i64 w a3 n3 zs) :
    Calls Try.prog 8 #[.int .i64 room, .slice a len cap, .slice a3 n3 c3] w fun e w' => e = .returned (.bool true) ∧ Below w.heap.size w w' := by
  go_enter Try.func8, Try.ntmps8
  go_wp2_with fail
  refine (ring_awake _).mono ?_
  rintro e w1 ⟨rfl, hb⟩
  go_wp2_with fail
  refine (RingP.played_any w1 room a len cap ops (h.below hb) hwf).mono ?_
  rintro e w2 (⟨rfl, hb2⟩ | ⟨r, sv, f, l, a2, c2, rfl, hA, hl, hfp, hown, hlr, hr1, hr2, hf0, hf1, hb2⟩)
  · dsimp only [Ref09.rv]
    go_wp2_with fail
    go_ret
    exact ⟨rfl, (hb.trans (hb2.mono hb.size)).alloc (by have := hb.size; have := hb2.size; omega) _⟩
  · dsimp only [Ref09.rv]
    by_cases hn3 : 60 < (n3 : Int)
    · go_wp2_with fail
      go_ret
      exact ⟨rfl, (hb.trans (hb2.mono hb.size)).alloc (by have := hb.size; have := hb2.size; omega) _⟩
    · obtain ⟨R, rfl⟩ : ∃ R : Nat, room = (R : Int) := ⟨room.toNat, by omega⟩
      have hzl : zs.length = n3 := hz.1
      subst hzl
      have pN := Lib.hid (fun W hA => RingInt.next_any W r (R : Int) f sv l hA hf0 (by omega))
      have hBel := hb.trans (hb2.mono hb.size)
      have hs2 := hBel.size
      have hz1 := hb.size
      go_wp2_with fail
      refine (pN.out _ (hA.alloc _)).mono ?_
      rintro e w3 ⟨rfl, nq, rfl⟩
      go_wp2_with fail
      obtain ⟨k0, k1⟩ := kept_zero (R := R) (zs := zs) (l := l) (by omega)
      go_loopw [11] (fun i wr => ∃ k : Nat, k ≤ zs.length ∧ i = .int .i64 k ∧ ∃ sv', At wr r (R : Int) (f + (gone R l zs k : Int)) sv' (kept R l zs k) ∧ Below w.heap.size w wr ∧ ∀ b, fp r sv' b → w.heap.size ≤ b) (fun i _ => zs.length - (intOf i).toNat)
      case atStart =>
        refine ⟨0, Nat.zero_le _, rfl, sv, by rw [k0, k1]; simpa using (hA.alloc _).drewN _, below_drewN (hBel.alloc hs2 _) _, fun b hb => by have := hfp b hb; omega⟩
      case round =>
        obtain ⟨k, hk, rfl, sv', hAk, hBk, hFk⟩ := hrel
        by_cases hlt : k < zs.length
        · obtain ⟨e1, e2⟩ := kept_succ (R := R) (l := l) (zs := zs) (k := k) (by omega) hlt (by omega)
          have hkl := kept_le (R := R) (l := l) (zs := zs) (k := k) hk
          have hkl2 := kept_le (R := R) (l := l) (zs := zs) (k := k + 1) (by omega)
          have hlen := kept_len (R := R) (l := l) (zs := zs) (k := k) hk
          have hg : gone R l zs k ≤ l.length + k := by unfold gone; omega
          have hg2 : gone R l zs k ≤ 60 := by unfold gone; omega
          obtain ⟨b, off, rfl, hblt, hcell⟩ := hz.2 (by omega)
          have hcj := (hBk.cell (p := ⟨b, off + k, none⟩) hblt).trans (hcell k hlt)
          have pP := RingInt.put_any wr r (R : Int) (f + (gone R l zs k : Int)) (nth zs k) sv' (kept R l zs k) hAk (by omega) (by omega) (by omega) (by omega)
          rw [show f + (gone R l zs k : Int) + ((kept R l zs k).length : Int) = f + (l.length : Int) + (k : Int) by omega, putF_add, e1, e2] at pP
          have pP := Lib.hid pP
          have hlen2 := Lib.hid hkl2
          have hi0 : (0 : Int) ≤ (k : Int) := by omega
          have hi1 : (k : Int) < (zs.length : Int) := by omega
          have hsm : f + (l.length : Int) + (k : Int) ≤ 4611686018427387904 := by omega
          have hkl3 : ((kept R l zs (k + 1)).length : Int) ≤ (R : Int) := by omega
          have hzB := hBk.size
          clear e1 e2 hkl hkl2 hlen hcell k0 k1
          go_wp2_with fail
          refine pP.out.mono ?_
          rintro e W1 ⟨rfl, sv2, hA2, hT2, hF2⟩
          have pL := Lib.hid (RingInt.len_any _ _ _ _ _ _ hA2)
          go_wp2_with fail
          refine pL.out.mono ?_
          rintro e W2 ⟨rfl, rfl⟩
          go_wp2_with fail
          go_roundw
          case rel =>
            refine ⟨k + 1, by omega, by simp, sv2, hA2, hBk.trans (hT2.below hzB (fun b hb => hFk b hb)), fun b hb => (hF2 b hb).elim (hFk b) (fun e => by omega)⟩
          case measure => simp [intOf]; omega
        · obtain rfl : k = zs.length := by omega
          have hgN : ∃ d, d = gone R l zs zs.length := ⟨_, rfl⟩
          have hlenN := kept_len (R := R) (l := l) (zs := zs) (k := zs.length) (Nat.le_refl _)
          have hnth := fun i hi hh => nth_kept (R := R) (l := l) (zs := zs) (i := i) hi hh
          have hdR : gone R l zs zs.length = l.length + zs.length - R := rfl
          obtain ⟨d, hd⟩ := hgN
          obtain ⟨lN, hlN⟩ : ∃ lN, lN = kept R l zs zs.length := ⟨_, rfl⟩
          rw [← hd] at hAk hlenN hnth hdR
          rw [← hlN] at hAk hlenN hnth
          have hnth := Lib.hid hnth
          have HL := Lib.hid hlenN
          have HD := Lib.hid hdR
          clear hd hlN hlenN hdR hnth k0 k1
          go_wp2_with fail
          go_loopw [12] (fun i w4 => ∃ k : Nat, k ≤ zs.length ∧ i = .int .i64 k ∧ At w4 r (R : Int) (f + (d : Int)) sv' lN ∧ Below w.heap.size w w4) (fun i _ => zs.length - (intOf i).toNat)
          case atStart => exact ⟨0, Nat.zero_le _, rfl, hAk, hBk⟩
          case round =>
            obtain ⟨k, hk2, rfl, hA4, hB4⟩ := hrel
            by_cases hlt2 : k < zs.length
            · obtain ⟨b, off, rfl, hblt, hcell⟩ := hz.2 (by omega)
              have hcj := (hB4.cell (p := ⟨b, off + k, none⟩) hblt).trans (hcell k hlt2)
              have pA := RingInt.at_any wr r (R : Int) (f + (d : Int)) (f + (l.length : Int) + (k : Int)) sv' lN hA4 (by omega) (by omega)
              have hL := HL.out
              have hDD := HD.out
              have hi0 : (0 : Int) ≤ (k : Int) := by omega
              have hi1 : (k : Int) < (zs.length : Int) := by omega
              have hsm : f + (l.length : Int) + (k : Int) ≤ 4611686018427387904 := by omega
              by_cases hc : (zs.length : Int) - (k : Int) ≤ (R : Int)
              · have hv : RingInt.atV (f + (d : Int)) lN (f + (l.length : Int) + (k : Int)) = nth zs k := by
                  unfold RingInt.atV
                  rw [if_neg (by omega), if_neg (by omega), show (f + (l.length : Int) + (k : Int) - (f + (d : Int))).toNat = l.length + k - d by omega]
                  exact hnth k hlt2 (by omega)
                have he : RingInt.atE (f + (d : Int)) lN.length (f + (l.length : Int) + (k : Int)) = 0 := by
                  unfold RingInt.atE
                  rw [if_neg (by omega), if_neg (by omega)]
                rw [hv, he] at pA
                have pA := Lib.hid pA
                clear hL hDD hnth hcell hv he HL HD
                go_wp2_with fail
                refine pA.out.mono ?_
                rintro e W1 ⟨rfl, nq, rfl⟩
                go_wp2_with fail
                go_roundw
                case rel => exact ⟨k + 1, by omega, by simp, hA4.drewN _, below_drewN hB4 _⟩
                case measure => simp [intOf]; omega
              · have he : RingInt.atE (f + (d : Int)) lN.length (f + (l.length : Int) + (k : Int)) = 90 := by
                  unfold RingInt.atE
                  rw [if_pos (by omega)]
                rw [he] at pA
                have pA := Lib.hid pA
                clear hL hDD hnth hcell he HL HD
                go_wp2_with fail
                refine pA.out.mono ?_
                rintro e W1 ⟨rfl, nq, rfl⟩
                go_wp2_with fail
                go_roundw
                case rel => exact ⟨k + 1, by omega, by simp, hA4.drewN _, below_drewN hB4 _⟩
                case measure => simp [intOf]; omega
            · obtain rfl : k = zs.length := by omega
              clear hnth
              go_wp2_with fail
              go_ret
              exact ⟨rfl, hB4⟩
end RingK
end Go.Proofs.Ytmipapfanelheaa
