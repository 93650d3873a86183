/-
  The walks of backstaylaw09.RingPlays, RingTells and RingKeeps. No condition.
-/
import Derived.Test.YtmipapfanelheaaRingPlayed
namespace Go.Proofs.Ytmipapfanelheaa
open Go.RowKit
set_option linter.all false

theorem Ops.below {w w' : World} {a : Option Addr} {len : Nat} {ops : List (Int × Int × Int)} (h : Ops w a len ops) (hb : Below w.heap.size w w') : Ops w' a len ops :=
  ⟨h.1, fun hp => by
    obtain ⟨b, off, e, hlt, hc⟩ := h.2 hp
    refine ⟨b, off, e, Nat.lt_of_lt_of_le hlt hb.size, fun j x hx => ?_⟩
    obtain ⟨x0, x1, x2⟩ := hc j x hx
    exact ⟨(hb.cell (p := ⟨b, off + j * 3, none⟩) hlt).trans x0, (hb.cell (p := ⟨b, off + j * 3 + 1, none⟩) hlt).trans x1, (hb.cell (p := ⟨b, off + j * 3 + 2, none⟩) hlt).trans x2⟩⟩

set_option maxRecDepth 100000 in
set_option maxHeartbeats 2000000 in
theorem ring_plays (room : Int) (a : Option Addr) (len cap : Nat) (ops : List (Int × Int × Int)) (w : World) (h : Ops w a len ops) (hwf : OpsWf ops) :
    Calls Try.prog 6 #[.int .i64 room, .slice a len cap] w fun e w' => e = .returned (.bool true) ∧ Below w.heap.size w w' := by
  go_enter Try.func6, Try.ntmps6
  go_wp2_with fail
  refine (ring_awake _).mono ?_
  rintro e w1 ⟨rfl, hb⟩
  go_wp2_with fail
  refine (RingP.played_any w1 room a len cap ops (h.below hb) hwf).mono ?_
  rintro e w2 (⟨rfl, hb2⟩ | ⟨r, sv, f, l, a2, c2, rfl, _, _, _, _, _, _, _, _, _, hb2⟩)
  all_goals
    dsimp only [Ref09.rv]
    go_wp2_with fail
    go_ret
    exact ⟨rfl, (hb.trans (hb2.mono hb.size)).alloc (by have := hb.size; have := hb2.size; omega) _⟩

set_option maxRecDepth 100000 in
set_option maxHeartbeats 2000000 in
theorem ring_tells (room : Int) (a : Option Addr) (len cap : Nat) (ops : List (Int × Int × Int)) (n : Int) (w : World) (h : Ops w a len ops) (hwf : OpsWf ops) (hn : n ≤ 9223372036854775807) :
    Calls Try.prog 7 #[.int .i64 room, .slice a len cap, .int .i64 n] w fun e w' => e = .returned (.bool true) ∧ Below w.heap.size w w' := by
  go_enter Try.func7, Try.ntmps7
  go_wp2_with fail
  refine (ring_awake _).mono ?_
  rintro e w1 ⟨rfl, hb⟩
  go_wp2_with fail
  refine (RingP.played_any w1 room a len cap ops (h.below hb) hwf).mono ?_
  rintro e w2 (⟨rfl, hb2⟩ | ⟨r, sv, f, l, a2, c2, rfl, hA, hl, hfp, hown, hlr, hr1, hr2, hf0, hf1, hb2⟩)
  · dsimp only [Ref09.rv]
    go_wp2_with fail
    go_ret
    exact ⟨rfl, (hb.trans (hb2.mono hb.size)).alloc (by have := hb.size; have := hb2.size; omega) _⟩
  · have pA := Lib.hid (fun W hA => RingInt.at_any W r room f n sv l hA hf0 hn)
    have pR := fun W hl => Ref09.at_any W room f n a2 c2 l hl hf0 (by omega) hn
    unfold Ref09.rv at pR
    have pR := Lib.hid pR
    dsimp only [Ref09.rv]
    go_wp2_with fail
    refine (pA.out _ (hA.alloc _)).mono ?_
    rintro e w3 ⟨rfl, nq, rfl⟩
    go_wp2_with fail
    refine (pR.out _ ((hl.alloc _).drewN _)).mono ?_
    rintro e w4 ⟨rfl, hb4⟩
    go_wp2_with fail
    go_ret
    refine ⟨rfl, (below_drewN ((hb.trans (hb2.mono hb.size)).alloc (by have := hb.size; have := hb2.size; omega) _) _).trans (hb4.mono (by have := hb.size; have := hb2.size; simp; omega))⟩
end Go.Proofs.Ytmipapfanelheaa
