/-
  The document's net: way, round, copied, at. Conditions: the lists lie in memory.
-/
import Derived.Test.YtmceaffoffemlaaNetK
namespace Go.Proofs.Ytmceaffoffemlaa.Netw
open Go.RowKit
set_option linter.all false

theorem rway_in (w : World) (d b : Nat) (hd : d < 2) (hb : b < 2) :
    Calls Try.prog 98 #[.int .i64 d, .int .i64 b] w fun e w' => e = .returned (.int .i64 ((2 * d + b : Nat) : Int)) ∧ w = w' := by
  obtain rfl | rfl : d = 0 ∨ d = 1 := by omega
  all_goals
    obtain rfl | rfl : b = 0 ∨ b = 1 := by omega
    all_goals
      go_enter Try.func98, Try.ntmps98
      go_wp2_with fail
      go_ret
      exact ⟨rfl, rfl⟩
theorem rway_out (w : World) (d b : Int) (h : ¬ isWay d b) :
    Calls Try.prog 98 #[.int .i64 d, .int .i64 b] w fun e w' => e = .returned (.int .i64 (-1)) ∧ w = w' := by
  have h' : d < 0 ∨ (¬ d < 0 ∧ 1 < d) ∨ (¬ d < 0 ∧ ¬ 1 < d ∧ b < 0) ∨ (¬ d < 0 ∧ ¬ 1 < d ∧ ¬ b < 0 ∧ 1 < b) := by unfold isWay at h; omega
  clear h
  rcases h' with h | ⟨h1, h2⟩ | ⟨h1, h2, h3⟩ | ⟨h1, h2, h3, h4⟩
  all_goals
    go_enter Try.func98, Try.ntmps98
    go_wp2_with fail
    go_ret
    exact ⟨rfl, rfl⟩
theorem rround_any (w : World) (i : Int) (l : Nat) (hl : 0 < l) (hl2 : l ≤ 1000000) (hi : -9223372036854775808 ≤ i ∧ i ≤ 9223372036854775807) :
    Calls Try.prog 101 #[.int .i64 i, .int .i64 (l : Int)] w fun e w' => e = .returned (.int .i64 (i % (l : Int))) ∧ w = w' := by
  have e1 := Int.emod_nonneg i (show (l : Int) ≠ 0 by omega)
  have e2 := Int.emod_lt_of_pos i (show (0 : Int) < (l : Int) by omega)
  have hl0 : ((l : Int) == 0) = false := by simp; omega
  have hln : ¬ l = 0 := by omega
  have hT := tmod_cases i l hl
  have hw : IntKind.i64.wrap (Int.tmod i l) = Int.tmod i l := IntWalk.i64_in _ (by omega)
  generalize hm : i % (l : Int) = m at *
  rcases hT with ⟨t1, t2⟩ | ⟨t1, t2⟩
  all_goals
    go_enter Try.func101, Try.ntmps101
    go_wp2_with fail
    go_ret
    exact ⟨rfl, rfl⟩

theorem rmail_info : (Try.prog.info? 141).map (fun i => (i.zero, i.size, i.bytes)) = some (some (.agg #[.slice none 0 0, .int .i64 0]), 2, 32) := by kernel_rfl
/-- The mails' data are slices. -/
def Sls (es : List E) : Prop := ∀ e ∈ es, ∃ a l c, e.1 = .slice a l c
theorem Sls.one {es : List E} (h : Sls es) : ∀ e ∈ es, e.1.oneCell' = true := fun e he => by obtain ⟨a, l, c, e1⟩ := h e he; rw [e1]; rfl
def cpd (es : List E) (j i : Nat) : List E := (es.take i).eraseIdx j
theorem cpd_zero (es : List E) (j : Nat) : cpd es j 0 = [] := by simp [cpd]
theorem cpd_skip (es : List E) (i : Nat) (h : i < es.length) : cpd es i (i + 1) = cpd es i i := by
  unfold cpd
  rw [List.eraseIdx_eq_take_drop_succ, List.eraseIdx_of_length_le (by rw [List.length_take]; omega), List.take_take, Nat.min_eq_left (by omega), List.drop_of_length_le (by rw [List.length_take]; omega), List.append_nil]
theorem cpd_snoc (es : List E) (j i : Nat) {e : E} (he : es[i]? = some e) (hj : i ≠ j) : cpd es j (i + 1) = cpd es j i ++ [e] := by
  obtain ⟨hi, hv⟩ := List.getElem?_eq_some_iff.1 he
  unfold cpd
  rw [List.take_succ_eq_append_getElem hi, hv]
  by_cases h : j < i
  · rw [List.eraseIdx_append_of_lt_length (by rw [List.length_take]; omega)]
  · rw [List.eraseIdx_append_of_length_le (by rw [List.length_take]; omega), List.eraseIdx_of_length_le (l := es.take i) (by rw [List.length_take]; omega), List.eraseIdx_of_length_le (by rw [List.length_take]; simp; omega)]
theorem cpd_len (es : List E) (j i : Nat) : (cpd es j i).length ≤ i := by
  unfold cpd; rw [List.length_eraseIdx, List.length_take]; split <;> omega
/-- A list of mails in a block of its own, or nil. -/
def Lst (w : World) (v : Value) (es : List E) : Prop := On w 141 2 v es.length (flat ecs es)
def Copied (w : World) (es : List E) (e : Ending) (W : World) : Prop := ∃ a c, e = .returned (.slice a es.length c) ∧ Lst W (.slice a es.length c) es ∧ (∀ g, (Value.slice a es.length c).ownBlock = some g → w.heap.size ≤ g) ∧ Below w.heap.size w W
set_option maxRecDepth 100000 in
set_option maxHeartbeats 2000000 in
theorem copied_any (w : World) (a : Option Addr) (n c : Nat) (es : List E) (wo : Int) (j : Nat) (hes : es.length = n) (h : On w 141 2 (.slice a n c) n (flat ecs es)) (hs : Sls es) (hn : n ≤ 1000) (hwo : ∀ i : Nat, i < n → ((i : Int) = wo ↔ i = j)) :
    Calls Try.prog 99 #[.slice a n c, .int .i64 wo] w (Copied w (es.eraseIdx j)) := by
  obtain ⟨i0, hi, hz0, hz1, hz2⟩ := info_parts rmail_info
  have HES := Lib.hid hes
  have H := Lib.hid h
  have HS := Lib.hid hs
  have HWO := Lib.hid hwo
  clear hes h hs hwo
  go_enter Try.func99, Try.ntmps99
  go_wp2_with fail
  go_loopw [5, 6] (fun ov iv W => ∃ (i : Nat) (oa : Option Addr) (oc ol : Nat), i ≤ n ∧ iv = .int .i64 (i : Int) ∧ ov = .slice oa ol oc ∧ ol = (cpd es j i).length ∧ Lst W (.slice oa ol oc) (cpd es j i) ∧ (∀ g, (Value.slice oa ol oc).ownBlock = some g → w.heap.size ≤ g) ∧ Below w.heap.size w W) (fun _ iv _ => n - (intOf iv).toNat)
  case atStart => exact ⟨0, none, 0, 0, Nat.zero_le _, rfl, rfl, by simp [cpd_zero], by rw [cpd_zero]; exact On.nil _ _ _, fun g hg => (by cases hg), Below.refl _ _⟩
  case round =>
    obtain ⟨i, oa, oc, ol, hin, rfl, rfl, hol, hL, hown, hB⟩ := hrel
    have hcl := cpd_len es j i
    by_cases hlt : i < n
    · obtain ⟨e, he⟩ : ∃ e, es[i]? = some e := ⟨_, List.getElem?_eq_getElem (by rw [HES.out]; exact hlt)⟩
      obtain ⟨ea, el, ec, hev⟩ := HS.out e (List.mem_of_getElem? he)
      by_cases hw : (i : Int) = wo
      · have hij : i = j := (HWO.out i hlt).1 hw
        have HIJ := Lib.hid hij
        have HOL := Lib.hid hol
        have HL := Lib.hid hL
        have HB := Lib.hid hB
        have HE := Lib.hid he
        have HW := Lib.hid hown
        have hwd : ((i : Int) != wo) = false := by simp [hw]
        have hwd' : ((i : Int) == wo) = true := by simp [hw]
        clear hij hol hL hB he hown hw hev hcl
        go_wp2_with fail
        go_roundw
        case rel =>
          have e1 : cpd es j (i + 1) = cpd es j i := by
            rw [← HIJ.out]; exact cpd_skip es i (List.getElem?_eq_some_iff.1 HE.out).1
          exact ⟨i + 1, oa, oc, ol, by omega, by go_num, rfl, by rw [e1]; exact HOL.out, by rw [e1]; exact HL.out, HW.out, HB.out⟩
        case measure => simp [intOf]; omega
      · have hij : i ≠ j := fun h => hw ((HWO.out i hlt).2 h)
        rcases H.out.form with ⟨_, h0, _⟩ | ⟨g, cap, hv, hnc, hcm, _, hg, hc, _⟩
        · omega
        cases hv
        have g0 := flat_get (cs := ecs) (s := 2) (fun _ => rfl) es he (i := 0) (by omega)
        have g1 := flat_get (cs := ecs) (s := 2) (fun _ => rfl) es he (i := 1) (by omega)
        have n0 := (hB.cell (p := ⟨g, i * 2, none⟩) hg).trans (hc (i * 2) _ g0)
        have n1 := (hB.cell (p := ⟨g, i * 2 + 1, none⟩) hg).trans (hc (i * 2 + 1) _ g1)
        rw [hev] at n0
        obtain ⟨ag, hag⟩ : ∃ ag, ag = e.2 := ⟨_, rfl⟩
        have n1' : wr.cell? ⟨g, i * 2 + 1, none⟩ = some (.int .i64 ag) := by rw [hag]; exact n1
        have HSN := Lib.hid (show cpd es j (i + 1) = cpd es j i ++ [e] from cpd_snoc es j i he hij)
        have HEC := Lib.hid (show ecs e = [.slice ea el ec, .int .i64 ag] by unfold ecs; rw [hev, hag])
        have hwd : ((i : Int) != wo) = true := by simp [bne]; exact hw
        have hwd' : ((i : Int) == wo) = false := by simp; exact hw
        have i1 : (0 : Int) ≤ (i : Int) := by omega
        have i2 : (i : Int) < (n : Int) := by omega
        have hol9 : ol ≤ 1000 := by omega
        have HOL := Lib.hid hol
        unfold Lst at hL
        rw [← hol] at hL
        have HX := Lib.hid (hL.alloc (.cells #[.slice ea el ec, .int .i64 ag] 141))
        have HB := Lib.hid hB
        have HW := Lib.hid hown
        have hsz := hB.size
        clear hij hw n1 hag g0 g1 hc hev he hL hB hown hol hg hcl
        go_wp2_with (at_builtin; refine wpList_append_on _ (by rfl) _ _ 68 (by rfl) 141 i0 _ 2 32 Try.underlying68 hi hz0 hz1 hz2 (by rfl) (by omega) (.slice oa ol oc) ol (flat ecs (cpd es j i)) (by rfl) HX.out (some ⟨wr.heap.size, 0, none⟩) 1 1 [.slice ea el ec, .int .i64 ag] (by rfl) (by rfl) (src_new wr 141 1 [.slice ea el ec, .int .i64 ag]) (by simp [Value.oneCell']) (by simp only [maxLen]; omega) (by omega) ?_; intro v' w' hon hg hv'; obtain ⟨a', c', rfl, _, _⟩ := hon.slice)
        go_roundw
        case rel =>
          have e2 : flat ecs (cpd es j i) ++ [.slice ea el ec, .int .i64 ag] = flat ecs (cpd es j (i + 1)) := by rw [HSN.out, flat_snoc, HEC.out]
          rw [e2] at hon
          have e3 : ol + 1 = (cpd es j (i + 1)).length := by rw [HSN.out, List.length_append, List.length_singleton, HOL.out]
          refine ⟨i + 1, a', c', ol + 1, by omega, by go_num, rfl, e3, by unfold Lst; rw [← e3]; exact hon, fun g' hg' => ?_, ?_⟩
          · rcases hv' with q | q
            · exact HW.out g' (by rw [← hg', q])
            · rw [hg'] at q
              have : g' = (wr.alloc (.cells #[.slice ea el ec, .int .i64 ag] 141)).heap.size := by simpa using q
              rw [this]; simp <;> omega
          · refine (HB.out.trans (((Below.refl _ wr).alloc (Nat.le_refl _) (.cells #[.slice ea el ec, .int .i64 ag] 141)).mono hsz)).trans ⟨hg.os, hg.tape, hg.output, hg.size, fun k hk => hg.block k (by simp <;> omega) (fun q => ?_)⟩
            have := HW.out k (by rw [← q])
            omega
        case measure => simp [intOf]; omega
    · obtain rfl : i = n := by omega
      have HL := Lib.hid hL
      have HB := Lib.hid hB
      have HW := Lib.hid hown
      have HOL := Lib.hid hol
      clear hL hB hown hol hcl
      go_wp2_with fail
      go_ret
      have e1 : cpd es j i = es.eraseIdx j := by unfold cpd; rw [List.take_of_length_le (by rw [HES.out]; omega)]
      have h1 := HL.out
      rw [e1] at h1
      have h2 := HOL.out
      rw [e1] at h2
      subst h2
      exact ⟨oa, oc, rfl, h1, HW.out, HB.out⟩
end Go.Proofs.Ytmceaffoffemlaa.Netw
