/-
  The walks of backstaylaw09.awake and RingRooms. No condition.
-/
import Derived.Test.YtmipapfanelheaaRingIntC
import Derived.Test.YtmipapfanelheaaRingByte
namespace Go.Proofs.Ytmipapfanelheaa
open Go.RowKit

set_option maxRecDepth 100000 in
set_option maxHeartbeats 2000000 in
theorem ring_awake (w : World) : Calls Try.prog 13 #[] w fun e w' => e = .returned (.bool true) ∧ Below w.heap.size w w' := by
  have hA0 := RingInt.at_new w 2
  have hp1 := Lib.hid (RingInt.put_any _ _ _ _ 7 _ _ hA0 (by omega) (by simp) (by simp) (by omega))
  go_enter Try.func13, Try.ntmps13
  go_wp2_with fail
  refine (RingInt.new_ok 2 w (by omega) (by omega)).mono ?_
  rintro e w' ⟨rfl, rfl⟩
  go_wp2_with fail
  refine hp1.out.mono ?_
  rintro e w1 ⟨rfl, sv1, hA1, hT1, hF1⟩
  replace hA1 : RingInt.At w1 w.heap.size 2 0 sv1 [7] := by simpa [RingInt.putF, RingInt.putL] using hA1
  have hp2 := Lib.hid (RingInt.put_any _ _ _ _ 8 _ _ hA1 (by omega) (by simp) (by simp) (by omega))
  go_wp2_with fail
  refine hp2.out.mono ?_
  rintro e w2 ⟨rfl, sv2, hA2, hT2, hF2⟩
  replace hA2 : RingInt.At w2 w.heap.size 2 0 sv2 [7, 8] := by simpa [RingInt.putF, RingInt.putL] using hA2
  have hp3 := Lib.hid (RingInt.put_any _ _ _ _ 9 _ _ hA2 (by omega) (by simp) (by simp) (by omega))
  go_wp2_with fail
  refine hp3.out.mono ?_
  rintro e w3 ⟨rfl, sv3, hA3, hT3, hF3⟩
  replace hA3 : RingInt.At w3 w.heap.size 2 1 sv3 [8, 9] := by simpa [RingInt.putF, RingInt.putL] using hA3
  have hp4 := Lib.hid (RingInt.first_any _ _ _ _ _ _ hA3)
  go_wp2_with fail
  refine hp4.out.mono ?_
  rintro e w4 ⟨rfl, rfl⟩
  go_wp2_with fail
  go_ret
  refine ⟨rfl, ?_⟩
  have b0 : Below w.heap.size w (w.alloc (.cells #[.int .i64 2, .int .i64 0, .slice none 0 0] 94)) := (Below.refl _ _).alloc (Nat.le_refl _) _
  obtain ⟨b1, s1, z1⟩ := hT1.base hF1 (B := w.heap.size) (by simp) (fun k hk => hk.elim (fun e => by omega) (fun e => by simp [Value.ownBlock] at e))
  obtain ⟨b2, s2, z2⟩ := hT2.base hF2 z1 s1
  obtain ⟨b3, s3, z3⟩ := hT3.base hF3 z2 s2
  exact ((b0.trans b1).trans b2).trans b3

set_option maxRecDepth 100000 in
set_option maxHeartbeats 2000000 in
theorem ring_rooms (n : Int) (w : World) : Calls Try.prog 4 #[.int .i64 n] w fun e w' => e = .returned (.bool true) ∧ Below w.heap.size w w' := by
  by_cases h : n < 1 ∨ 4096 < n
  · have hn := fun W => RingByte.new_no n W h
    rcases h with h | h
    · go_enter Try.func4, Try.ntmps4
      go_wp2_with fail
      refine (ring_awake _).mono ?_
      rintro e w1 ⟨rfl, hb⟩
      go_wp2_with fail
      refine (hn _).mono ?_
      rintro e w2 ⟨rfl, rfl⟩
      go_wp2_with fail
      go_ret
      exact ⟨rfl, hb⟩
    · have h' : ¬ n < 1 := by omega
      go_enter Try.func4, Try.ntmps4
      go_wp2_with fail
      refine (ring_awake _).mono ?_
      rintro e w1 ⟨rfl, hb⟩
      go_wp2_with fail
      refine (hn _).mono ?_
      rintro e w2 ⟨rfl, rfl⟩
      go_wp2_with fail
      go_ret
      exact ⟨rfl, hb⟩
  · have h1 : ¬ n < 1 := by omega
    have h2 : ¬ 4096 < n := by omega
    have hn := fun W => RingByte.new_ok n W (by omega) (by omega)
    go_enter Try.func4, Try.ntmps4
    go_wp2_with fail
    refine (ring_awake _).mono ?_
    rintro e w1 ⟨rfl, hb⟩
    go_wp2_with fail
    refine (hn _).mono ?_
    rintro e w2 ⟨rfl, rfl⟩
    have hA := RingByte.at_new w1 n
    have p1 := Lib.hid (RingByte.room_any _ _ _ _ _ _ hA)
    have p2 := Lib.hid (RingByte.len_any _ _ _ _ _ _ hA)
    have p3 := Lib.hid (RingByte.first_any _ _ _ _ _ _ hA)
    have p4 := Lib.hid (RingByte.next_any _ _ _ _ _ _ hA (by omega) (by simp))
    go_wp2_with (first | (go_at_call 15; refine p1.out.mono ?_; rintro e w2 ⟨rfl, rfl⟩) | (go_at_call 16; refine p2.out.mono ?_; rintro e w2 ⟨rfl, rfl⟩) | (go_at_call 17; refine p3.out.mono ?_; rintro e w2 ⟨rfl, rfl⟩) | (go_at_call 18; refine p4.out.mono ?_; rintro e w2 ⟨rfl, nq, rfl⟩))
    go_ret
    exact ⟨rfl, below_drewN (hb.alloc (hb.size) _) _⟩

end Go.Proofs.Ytmipapfanelheaa
