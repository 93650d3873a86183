/-
  MeterParts: the walk.
-/
import Derived.Test.YtmceaffoffemlaaMetE
namespace Go.Proofs.Ytmceaffoffemlaa.Met
open Go.RowKit
set_option linter.all false

set_option maxRecDepth 100000 in
set_option maxHeartbeats 8000000 in
theorem parts_law (a b : Option Addr) (c d : Nat) (bs ls : List Int) (n : Int) (w : World) (hr : Row .i64 w a bs.length bs) (hlr : Row .i64 w b ls.length ls) (hI : I64 ls) (hbl : bs.length ≤ 9223372036854775807) :
    Calls Try.prog 4 #[.slice a bs.length c, .slice b ls.length d, .int .i64 n] w fun e w' => e = .returned (.bool true) ∧ Below w.heap.size w w' := by
  have HR := Lib.hid hr
  have HL := Lib.hid hlr
  have HI := Lib.hid hI
  clear hr hlr hI
  go_enter Try.func4, Try.ntmps4
  go_wp2_with fail
  refine (awake_any w).mono ?_
  rintro e w1 ⟨rfl, hB1⟩
  have p := Lib.hid (right_any w1 a c bs (HR.out.below hB1) hbl)
  go_wp2_with fail
  refine p.out.mono ?_
  rintro e w2 ⟨hSR, hB2⟩
  have hB : Below w.heap.size w w2 := hB1.trans (hB2.mono hB1.size)
  clear p hB1 hB2
  rcases hSR with ⟨rfl, hR⟩ | ⟨rfl, hR⟩
  · by_cases h60 : 60 < ls.length
    · have h60' : (60 : Int) < (ls.length : Int) := by omega
      go_wp2_with fail
      go_ret
      exact ⟨rfl, hB⟩
    · have h60' : ¬ (60 : Int) < (ls.length : Int) := by omega
      have h64 := hR.2.2
      have hadj := Lib.hid hR.1
      have p := Lib.hid (made_any w2 a b c d bs ls (HR.out.below hB) (HL.out.below hB) hR (by omega) HI.out)
      clear hR
      go_wp2_with fail
      refine p.out.mono ?_
      rintro e w3 ⟨t, bv, cv, rfl, H⟩
      have hB3 : Below w.heap.size w w3 := hB.trans (H.below.mono hB.size)
      clear p
      have qPl := Lib.hid (fun (W : World) (h : Below w3.heap.size w3 W) (x : Int) => place_any W t bv cv bs ls x (H.at_.below h))
      have qPa := Lib.hid (fun (W : World) (h : Below w3.heap.size w3 W) (x : Int) => part_any W t bv cv bs ls x (H.at_.below h) (by omega))
      have qBo := Lib.hid (fun (W : World) (h : Below w3.heap.size w3 W) (x : Int) => bound_any W t bv cv bs ls x (H.at_.below h) (by omega))
      have rPl := Lib.hid (fun (W : World) (h : Below w3.heap.size w3 W) (x : Int) => ref_place W a c bs x (HR.out.below (hB3.trans (h.mono hB3.size))) hbl)
      have rPa := Lib.hid (fun (W : World) (h : Below w3.heap.size w3 W) (x : Int) => ref_part W a b c d bs ls x (HR.out.below (hB3.trans (h.mono hB3.size))) (HL.out.below (hB3.trans (h.mono hB3.size))) h64 (by omega))
      have rBo := Lib.hid (fun (W : World) (h : Below w3.heap.size w3 W) (x : Int) => ref_bound W a b c d bs ls x (HR.out.below (hB3.trans (h.mono hB3.size))) (HL.out.below (hB3.trans (h.mono hB3.size))) h64 (by omega))
      have hr0 := Below.refl w3.heap.size w3
      clear H hB
      go_wp2_with fail
      refine (qPl.out _ hr0 _).mono ?_
      rintro e w' ⟨rfl, rfl⟩
      go_wp2_with fail
      refine (rPl.out _ hr0 _).mono ?_
      rintro e w' ⟨rfl, hw⟩
      subst hw
      go_wp2_with fail
      refine (qPa.out _ hr0 _).mono ?_
      rintro e w4 ⟨rfl, hb4⟩
      go_wp2_with fail
      refine (rPa.out _ hb4 _).mono ?_
      rintro e w5 ⟨rfl, hw⟩
      subst hw
      go_wp2_with fail
      refine (qBo.out _ hb4 _).mono ?_
      rintro e w5 ⟨rfl, hb5⟩
      have hb5 := hb4.trans (hb5.mono hb4.size)
      go_wp2_with fail
      refine (rBo.out _ hb5 _).mono ?_
      rintro e w6 ⟨rfl, hb6⟩
      have hb6 := hb5.trans (hb6.mono hb5.size)
      go_wp2_with fail
      rw [show decide ((60 : Int) < (ls.length : Int)) = false from decide_eq_false (by omega)]
      go_loopw [8] (fun iv wr => ∃ q : Nat, q ≤ 21 ∧ iv = .int .i64 ((5 * q : Nat) : Int) ∧ Below w'.heap.size w' wr) (fun iv _ => 105 - (intOf iv).toNat)
      case atStart => exact ⟨0, by omega, rfl, hb6⟩
      case round =>
        obtain ⟨q, hq, rfl, hbr⟩ := hrel
        by_cases hlt : q < 21
        · have h5 : ((5 * q : Nat) : Int) ≤ 100 := by omega
          obtain ⟨h, hh⟩ : ∃ h : Int, ((5 * q : Nat) : Int) = h := ⟨_, rfl⟩
          have hw5 : IntKind.i64.wrap (h + 5) = h + 5 := IntWalk.i64_in _ (by omega)
          have HH := Lib.hid hh
          rw [hh] at h5
          have m1 : ¬ partI bs ls (h + 5) < partI bs ls h := by have := part_mono bs ls (show h ≤ h + 5 by omega); omega
          have m2 : ¬ boundI bs ls (h + 5) < boundI bs ls h := by have := bound_mono ls hadj.out (show h ≤ h + 5 by omega); omega
          rw [hh]
          clear hh
          go_wp2_with fail
          refine (qPa.out _ hbr _).mono ?_
          rintro e v1 ⟨rfl, hc1⟩
          have hc1 := hbr.trans (hc1.mono hbr.size)
          go_wp2_with fail
          refine (rPa.out _ hc1 _).mono ?_
          rintro e v2 ⟨rfl, hw⟩
          subst hw
          go_wp2_with fail
          refine (qPa.out _ hc1 _).mono ?_
          rintro e v3 ⟨rfl, hc3⟩
          have hc3 := hc1.trans (hc3.mono hc1.size)
          go_wp2_with fail
          refine (qPa.out _ hc3 _).mono ?_
          rintro e v4 ⟨rfl, hc4⟩
          have hc4 := hc3.trans (hc4.mono hc3.size)
          go_wp2_with fail
          refine (qBo.out _ hc4 _).mono ?_
          rintro e v5 ⟨rfl, hc5⟩
          have hc5 := hc4.trans (hc5.mono hc4.size)
          go_wp2_with fail
          refine (qBo.out _ hc5 _).mono ?_
          rintro e v6 ⟨rfl, hc6⟩
          have hc6 := hc5.trans (hc6.mono hc5.size)
          go_wp2_with fail
          go_roundw
          case rel => exact ⟨q + 1, by omega, by have := HH.out; congr 1; omega, hc6⟩
          case measure => have := HH.out; simp [intOf]; omega
        · obtain rfl : q = 21 := by omega
          have hbw := hB3.trans (hbr.mono hB3.size)
          go_wp2_with fail
          go_ret
          exact ⟨rfl, hbw⟩
  · go_wp2_with fail
    go_ret
    exact ⟨rfl, hB⟩
end Go.Proofs.Ytmceaffoffemlaa.Met
