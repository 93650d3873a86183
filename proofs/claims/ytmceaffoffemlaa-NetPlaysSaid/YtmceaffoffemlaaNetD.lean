/-
  net: Send refused; Double.
-/
import Derived.Test.YtmceaffoffemlaaNetC
namespace Go.Proofs.Ytmceaffoffemlaa.Netw
open Go.RowKit
set_option linter.all false

theorem send_out (w : World) (n : Nat) (d b : Int) (a : Option Addr) (l c : Nat) (h : d < 0 ∨ (¬ d < 0 ∧ 2 ≤ d) ∨ (¬ d < 0 ∧ ¬ 2 ≤ d ∧ b < 0) ∨ (¬ d < 0 ∧ ¬ 2 ≤ d ∧ ¬ b < 0 ∧ 2 ≤ b)) :
    Calls Try.prog 12 #[.pointer (some ⟨n, 0, none⟩), .int .i64 d, .int .i64 b, .slice a l c] w fun e w' => e = .returned (.int .i64 62) ∧ w = w' := by
  have p := Lib.hid (way_out w n d b h)
  clear h
  go_enter Try.func12, Try.ntmps12
  go_wp2_with fail
  refine p.out.mono ?_
  rintro e w' ⟨rfl, rfl⟩
  go_wp2_with fail
  go_ret
  exact ⟨rfl, rfl⟩

/-- A mail's cell. -/
theorem mail_cell {W : World} {n k m : Nat} {s : NS} {e : E} (h : NAt W n s) (hk : k < 4) (hm : (s.es k)[m]? = some e) :
    ∃ g c, s.v k = .slice (some ⟨g, 0, none⟩) (s.es k).length c ∧ m < (s.es k).length ∧ (s.es k).length ≤ c ∧ W.cell? ⟨g, m * 2, none⟩ = some e.1 ∧ W.cell? ⟨g, m * 2 + 1, none⟩ = some (.int .i64 e.2) := by
  have hlt : m < (s.es k).length := (List.getElem?_eq_some_iff.1 hm).1
  rcases (h.way k hk).form with ⟨_, h0, _⟩ | ⟨g, c, e1, hnc, hcm, hown, hg, hc, hf⟩
  · omega
  · have g0 := flat_get (cs := ecs) (s := 2) (fun _ => rfl) (s.es k) hm (i := 0) (by omega)
    have g1 := flat_get (cs := ecs) (s := 2) (fun _ => rfl) (s.es k) hm (i := 1) (by omega)
    exact ⟨g, c, e1, hlt, hnc, hc (m * 2) _ g0, hc (m * 2 + 1) _ g1⟩

set_option maxRecDepth 100000 in
set_option maxHeartbeats 2000000 in
theorem double_ok (w : World) (n d b m : Nat) (i : Int) (s : NS) (e : E) (l : Nat) (xs : List Value) (h : NAt w n s) (hd : d < 2) (hb : b < 2) (hi : -9223372036854775808 ≤ i ∧ i ≤ 9223372036854775807)
    (hm : (s.es (2 * d + b))[m]? = some e) (him : i % ((s.es (2 * d + b)).length : Int) = m) (hdat : On w 5 1 e.1 l xs) (hl : l ≤ 1400) (hx1 : ∀ u ∈ xs, u.oneCell' = true) (hroom : (s.es (2 * d + b)).length < 128) :
    Calls Try.prog 44 #[.pointer (some ⟨n, 0, none⟩), .int .i64 d, .int .i64 b, .int .i64 i] w fun e w' => e = .returned (.int .i64 0) ∧ Sent w n s (2 * d + b) l xs w' := by
  have hk4 : 2 * d + b < 4 := by omega
  obtain ⟨g, c, e1, hlt, hlc, m0, m1⟩ := mail_cell h hk4 hm
  have hc := h.cell hk4
  rw [e1] at hc
  have p := at_some w n d b _ c i _ hd hb (by omega) (by omega) hi hc
  rw [him] at p
  obtain ⟨a2, c2, e2, hlc2, hcm2⟩ := hdat.slice
  rw [e2] at m0 hdat
  have ps := Lib.hid (send_ok w n d b s a2 l c2 xs h hd hb hl (by have := hdat.1; omega) hx1 (fun W hW => (hdat.below hW (fun g hg => hdat.lt g hg)).src) hroom)
  have p := Lib.hid p
  have hi1 : (0 : Int) ≤ (m : Int) := by omega
  have hi2 : (m : Int) < ((s.es (2 * d + b)).length : Int) := by omega
  clear hdat m1 h
  generalize (s.es (2 * d + b)).length = len at *
  go_enter Try.func44, Try.ntmps44
  go_wp2_with fail
  refine p.out.mono ?_
  rintro e w' ⟨rfl, rfl⟩
  go_wp2_with fail
  refine ps.out.mono ?_
  rintro e w' ⟨rfl, hS⟩
  go_wp2_with fail
  go_ret
  exact ⟨rfl, hS⟩
end Go.Proofs.Ytmceaffoffemlaa.Netw
