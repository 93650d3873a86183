/-
  MeterCounts: the walk.
-/
import Derived.Test.YtmceaffoffemlaaMetH
namespace Go.Proofs.Ytmceaffoffemlaa.Met
open Go.RowKit
set_option linter.all false

theorem hold_clamp (z : Int) : Num.hold z = clampI z := by unfold Num.hold clampI; split <;> (try split) <;> omega
set_option maxRecDepth 100000 in
set_option maxHeartbeats 2000000 in
theorem ref_sum (w : World) (a : Option Addr) (c : Nat) (ls : List Int) (hr : Row .i64 w a ls.length ls) (hI : I64 ls) (hl : ls.length ≤ 1000) :
    Calls Try.prog 27 #[.slice a ls.length c] w fun e w' => e = .returned (.int .i64 (sat ls)) ∧ Below w.heap.size w w' := by
  have HR := Lib.hid hr
  clear hr
  go_enter Try.func27, Try.ntmps27
  go_wp2_with fail
  go_loopw [3, 4] (fun nv iv wr => ∃ i : Nat, i ≤ ls.length ∧ iv = .int .i64 i ∧ nv = .int .i64 (sat (ls.take i)) ∧ Below w.heap.size w wr) (fun _ iv _ => ls.length - (intOf iv).toNat)
  case atStart => exact ⟨0, by omega, rfl, rfl, Below.refl _ _⟩
  case round =>
    obtain ⟨i, hi, rfl, rfl, hB⟩ := hrel
    by_cases hlt : i < ls.length
    · obtain ⟨gb, ob, rfl, hgb, hcb⟩ := (HR.out.below hB).2 (by omega)
      have ci := hcb i hlt
      have i0 : (i : Int) < (ls.length : Int) := by omega
      have i1 : (0 : Int) ≤ (i : Int) := by omega
      have hx := hI.nth hlt
      have hsx := sat_in (ls.take i)
      have E := Lib.hid (show sat (ls.take (i + 1)) = clampI (sat (ls.take i) + nth ls i) by rw [take_succ_nth hlt, sat_snoc])
      have HB := Lib.hid hB
      clear hcb hB
      generalize sat (ls.take i) = A at *
      generalize nth ls i = v at *
      have p := Lib.hid (Num.add_any wr A v hsx.1 hsx.2 hx.1 hx.2)
      go_wp2_with fail
      refine p.out.mono ?_
      rintro e w5 ⟨rfl, hb5⟩
      go_wp2_with fail
      go_roundw
      case rel => exact ⟨i + 1, by omega, by go_num, by rw [E.out, hold_clamp], HB.out.trans (hb5.mono HB.out.size)⟩
      case measure => simp [intOf]; omega
    · obtain rfl : i = ls.length := by omega
      have HP := Lib.hid (show ls.take ls.length = ls from List.take_length)
      go_wp2_with fail
      go_ret
      exact ⟨ret_int (by rw [HP.out]), hB⟩

set_option maxRecDepth 100000 in
set_option maxHeartbeats 4000000 in
theorem new_no (w : World) (a : Option Addr) (c : Nat) (bs : List Int) (hr : Row .i64 w a bs.length bs) (hR : ¬ Right bs) :
    Calls Try.prog 25 #[.slice a bs.length c] w fun e w' => e = .returned (.tuple #[.pointer none, .int .i64 1]) ∧ w' = w := by
  by_cases h1 : bs.length < 1
  · have h1' : (bs.length : Int) < 1 := by omega
    go_enter Try.func25, Try.ntmps25
    go_wp2_with fail
    go_ret2
    exact ⟨rfl, rfl⟩
  · have h1' : ¬ (bs.length : Int) < 1 := by omega
    by_cases h2 : 64 < bs.length
    · have h2' : (64 : Int) < (bs.length : Int) := by omega
      go_enter Try.func25, Try.ntmps25
      go_wp2_with fail
      go_ret2
      exact ⟨rfl, rfl⟩
    · have h2' : ¬ (64 : Int) < (bs.length : Int) := by omega
      have HN := Lib.hid (show ¬ Adj bs from fun h => hR ⟨h, by omega, by omega⟩)
      obtain ⟨gb, ob, rfl, hgb, hcb⟩ := hr.2 (by omega)
      clear hr hR
      go_enter Try.func25, Try.ntmps25
      go_wp2_with fail
      go_loopw [16] (fun iv wr => ∃ k : Nat, k ≤ bs.length ∧ iv = .int .i64 k ∧ (∀ i, i + 1 < k → nth bs i < nth bs (i + 1)) ∧ wr = w) (fun iv _ => bs.length - (intOf iv).toNat)
      case atStart => exact ⟨0, by omega, rfl, fun i hi => by omega, rfl⟩
      case round =>
        obtain ⟨k, hk, rfl, hadj, rfl⟩ := hrel
        by_cases hlt : k < bs.length
        · have ck := hcb k hlt
          have i1 : (0 : Int) ≤ (k : Int) := by omega
          have i2 : (k : Int) < (bs.length : Int) := by omega
          by_cases hk0 : k = 0
          · subst hk0
            rw [Nat.add_zero] at ck
            clear hcb hadj
            go_wp2_with fail
            go_roundw
            case rel => exact ⟨1, by omega, by go_num, fun i hi => by omega, by first | trivial | rfl⟩
            case measure => simp [intOf]; omega
          · obtain ⟨j, hj⟩ : ∃ j, j = k - 1 := ⟨_, rfl⟩
            have hkj : k = j + 1 := by omega
            have cj := hcb j (by omega)
            have i3 : (0 : Int) < (k : Int) := by omega
            have hwj : IntKind.i64.wrap ((k : Int) - 1) = (j : Int) := by rw [IntWalk.i64_in _ (by omega)]; omega
            have i4 : (0 : Int) ≤ (j : Int) := by omega
            have i5 : (j : Int) < (bs.length : Int) := by omega
            have HKJ := Lib.hid hkj
            clear hcb hj hkj
            by_cases hx : nth bs j < nth bs k
            · have HADJ := Lib.hid (show ∀ i, i + 1 < k + 1 → nth bs i < nth bs (i + 1) from fun i hi => by
                by_cases e : i = j
                · subst e; rw [← HKJ.out]; exact hx
                · exact hadj i (by have := HKJ.out; omega))
              have hx' : ¬ nth bs k ≤ nth bs j := by omega
              clear hadj hx
              generalize nth bs k = v1 at *
              generalize nth bs j = v0 at *
              go_wp2_with fail
              go_roundw
              case rel => exact ⟨k + 1, by omega, by go_num, HADJ.out, by first | trivial | rfl⟩
              case measure => simp [intOf]; omega
            · have hx' : nth bs k ≤ nth bs j := by omega
              clear hadj hx
              generalize nth bs k = v1 at *
              generalize nth bs j = v0 at *
              go_wp2_with fail
              go_ret2
              exact ⟨rfl, by first | trivial | rfl⟩
        · exact absurd (show Adj bs from fun i hi => hadj i (by omega)) HN.out

set_option maxRecDepth 100000 in
set_option maxHeartbeats 8000000 in
theorem counts_law (a b : Option Addr) (c d : Nat) (bs ls : List Int) (w : World) (hr : Row .i64 w a bs.length bs) (hlr : Row .i64 w b ls.length ls) (hI : I64 ls) (hbl : bs.length ≤ 9223372036854775807) (hll : ls.length ≤ 9223372036854775807) :
    Calls Try.prog 5 #[.slice a bs.length c, .slice b ls.length d] w fun e w' => e = .returned (.bool true) ∧ Below w.heap.size w w' := by
  have HR := Lib.hid hr
  have HL := Lib.hid hlr
  have HI := Lib.hid hI
  clear hr hlr hI
  go_enter Try.func5, Try.ntmps5
  go_wp2_with fail
  refine (awake_any w).mono ?_
  rintro e w1 ⟨rfl, hB1⟩
  by_cases h100 : 100 < ls.length
  · have h100' : (100 : Int) < (ls.length : Int) := by omega
    go_wp2_with fail
    go_ret
    exact ⟨rfl, hB1⟩
  have h100' : ¬ (100 : Int) < (ls.length : Int) := by omega
  by_cases h200 : 200 < bs.length
  · have h200' : (200 : Int) < (bs.length : Int) := by omega
    go_wp2_with fail
    go_ret
    exact ⟨rfl, hB1⟩
  have h200' : ¬ (200 : Int) < (bs.length : Int) := by omega
  by_cases hR : Right bs
  · have p := Lib.hid (new_ok w1 a c bs (HR.out.below hB1) hR)
    go_wp2_with fail
    refine p.out.mono ?_
    rintro e w2 ⟨t0, bv0, cv0, rfl, _, _, _, hB2⟩
    have hBb := hB1.trans (hB2.mono hB1.size)
    have q := Lib.hid (right_any w2 a c bs (HR.out.below hBb) hbl)
    clear p
    go_wp2_with fail
    refine q.out.mono ?_
    rintro e w3 ⟨hSR, hB3⟩
    have hBc := hBb.trans (hB3.mono hBb.size)
    rcases hSR with ⟨rfl, _⟩ | ⟨_, hno⟩
    · have m := Lib.hid (made_any w3 a b c d bs ls (HR.out.below hBc) (HL.out.below hBc) hR (by omega) HI.out)
      clear q
      go_wp2_with fail
      refine m.out.mono ?_
      rintro e w4 ⟨t, bv, cv, rfl, H⟩
      have hBd := hBc.trans (H.below.mono hBc.size)
      have s := Lib.hid (ref_sum w4 b d ls (HL.out.below hBd) HI.out (by omega))
      have HT := Lib.hid H
      clear m H
      go_wp2_with fail
      refine s.out.mono ?_
      rintro e w5 ⟨rfl, hB5⟩
      have hBe := hBd.trans (hB5.mono hBd.size)
      have i := Lib.hid (is_any w5 t bv cv bs ls (sat ls) a b c d ((HT.out.at_.below hB5).ts) (HR.out.below hBe) (HL.out.below hBe) hR.2.2 (by omega) (sat_in ls))
      go_wp2_with fail
      refine i.out.mono ?_
      rintro e w6 ⟨rfl, hB6⟩
      go_wp2_with fail
      go_ret
      exact ⟨rfl, hBe.trans (hB6.mono hBe.size)⟩
    · exact absurd hR hno
  · have p := Lib.hid (new_no w1 a c bs (HR.out.below hB1) hR)
    go_wp2_with fail
    refine p.out.mono ?_
    rintro e w2 ⟨rfl, hw⟩
    subst hw
    have q := Lib.hid (right_any w2 a c bs (HR.out.below hB1) hbl)
    clear p
    go_wp2_with fail
    refine q.out.mono ?_
    rintro e w3 ⟨hSR, hB3⟩
    rcases hSR with ⟨_, hyes⟩ | ⟨rfl, _⟩
    · exact absurd hyes hR
    · clear q
      go_wp2_with fail
      go_ret
      exact ⟨rfl, hB1.trans (hB3.mono hB1.size)⟩
end Go.Proofs.Ytmceaffoffemlaa.Met
