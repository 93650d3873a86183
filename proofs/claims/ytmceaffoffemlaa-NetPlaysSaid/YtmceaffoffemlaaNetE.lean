/-
  backstaylaw29.awake.
-/
import Derived.Test.YtmceaffoffemlaaNetD
namespace Go.Proofs.Ytmceaffoffemlaa.Netw
open Go.RowKit
set_option linter.all false

def s0 : NS := ⟨fun _ => .slice none 0 0, fun _ => [], 0, 0, 0⟩
theorem new_at (w : World) :
    Calls Try.prog 11 #[] w fun e w' => e = .returned (.pointer (some ⟨w.heap.size, 0, none⟩)) ∧ NAt w' w.heap.size s0 ∧ Below w.heap.size w w' :=
  (new_any w).mono fun e w' ⟨he, hb, hB⟩ => ⟨he, ⟨hb, fun _ _ => On.nil _ _ _, fun _ _ g _ _ _ hg => by cases hg⟩, hB⟩
/-- Each way's slice, written out. -/
theorem NAt.slice {W : World} {n k : Nat} {s : NS} (h : NAt W n s) (hk : k < 4) : ∃ a c, s.v k = .slice a (s.es k).length c ∧ W.cell? ⟨n, k, none⟩ = some (.slice a (s.es k).length c) := by
  obtain ⟨a, c, e, _⟩ := (h.way k hk).slice
  exact ⟨a, c, e, by rw [h.cell hk, e]⟩

set_option maxRecDepth 100000 in
set_option maxHeartbeats 2000000 in
theorem awake_any (w : World) : Calls Try.prog 10 #[] w fun e w' => e = .returned (.bool true) ∧ Below w.heap.size w w' := by
  go_enter Try.func10, Try.ntmps10
  go_wp2_with fail
  refine (new_at w).mono ?_
  rintro e w1 ⟨rfl, hN, hB⟩
  have hz := hB.size
  have hOn : On (w1.alloc (.cells #[.int .u8 5] 5)) 5 1 (.slice (some ⟨w1.heap.size, 0, none⟩) 1 1) 1 [.int .u8 5] := ⟨rfl, .inr ⟨w1.heap.size, 1, #[.int .u8 5], rfl, heap_new w1 _, Nat.le_refl _, by simp [maxLen], by simp, by simp⟩⟩
  have p1 := Lib.hid (send_ok (w1.alloc (.cells #[.int .u8 5] 5)) w.heap.size 1 0 s0 (some ⟨w1.heap.size, 0, none⟩) 1 1 [.int .u8 5] (hN.below ((Below.refl _ _).alloc (Nat.le_refl _) _)) (by omega) (by omega) (by omega) rfl (by simp [Value.oneCell'])
    (fun W hW => (hOn.below hW (fun g hg => hOn.lt g hg)).src) (by simp [s0]))
  go_wp2_with fail
  refine p1.out.mono ?_
  rintro e w2 ⟨rfl, dv, v3, hN2, hD2, hdv, hT2, hv3⟩
  have hB2 : Below w.heap.size w w2 := (hB.alloc hz (.cells #[.int .u8 5] 5)).trans (hT2.below (by simp; omega) (fun k hk => by
    rcases hk with e | e
    · omega
    · simp [s0, Value.ownBlock] at e))
  have p2 := Lib.hid (double_ok w2 w.heap.size 1 0 0 0 _ (dv, 0) 1 [.int .u8 5] hN2 (by omega) (by omega) (by omega) rfl rfl hD2 (by omega) (by simp [Value.oneCell']) (by show (1 : Nat) < 128; omega))
  go_wp2_with fail
  refine p2.out.mono ?_
  rintro e w3 ⟨rfl, dv2, v4, hN3, hD3, hdv2, hT3, hv4⟩
  have hB3 : Below w.heap.size w w3 := hB2.trans (hT3.below hB2.size (fun k hk => by
    rcases hk with e | e
    · omega
    · have e' : v3.ownBlock = some k := e
      rcases hv3 k e' with q | q
      · simp [s0, Value.ownBlock] at q
      · have : w1.heap.size + 1 ≤ k := by simpa using q
        omega))
  obtain ⟨a4, c4, _, hc2⟩ := hN3.slice (k := 2) (by omega)
  have hc0 : w3.cell? ⟨w.heap.size, 0, none⟩ = some (.slice none 0 0) := hN3.cell (k := 0) (by omega)
  have hc1 : w3.cell? ⟨w.heap.size, 1, none⟩ = some (.slice none 0 0) := hN3.cell (k := 1) (by omega)
  have hc3 : w3.cell? ⟨w.heap.size, 3, none⟩ = some (.slice none 0 0) := hN3.cell (k := 3) (by omega)
  have hc2 : w3.cell? ⟨w.heap.size, 2, none⟩ = some (.slice a4 2 c4) := hc2
  have p3 := Lib.hid (len_in w3 w.heap.size 1 0 2 c4 a4 (by omega) (by omega) hc2)
  have p4 := Lib.hid (flight_any w3 w.heap.size 0 0 2 0 0 0 c4 0 none none a4 none hc0 hc1 hc2 hc3 (by omega) (by omega) (by omega) (by omega))
  clear hc0 hc1 hc2 hc3 hN3 hD3 hT3 hv4 p2 hN2 hD2 hT2 hv3 p1
  go_wp2_with fail
  refine p3.out.mono ?_
  rintro e w4 ⟨rfl, rfl⟩
  go_wp2_with fail
  refine p4.out.mono ?_
  rintro e w4 ⟨rfl, rfl⟩
  go_wp2_with fail
  go_ret
  exact ⟨rfl, hB3⟩
end Go.Proofs.Ytmceaffoffemlaa.Netw
