/-
  Texts joined: SpW4, SpW5, SpWL. No condition.
-/
import Derived.Test.YtckkpgopddnkiaaBSpectWatches19
import Derived.WalkMore
namespace Go.Proofs.Ytckkpgopddnkiaa.Spe
open Go.RowKit Go.Shelf Go.Sort Go.Proofs.Ytckkpgopddnkiaa.Byt Go.Proofs.Ytckkpgopddnkiaa.Gm Go.Proofs.Ytckkpgopddnkiaa.RingE Go.Proofs.Ytckkpgopddnkiaa.Num
set_option linter.all false
theorem loadW33 (w : World) (g o : Nat) : loadR Try.prog 53 (.pointer (some ⟨g, o, none⟩)) w = loadI w (loadR0 Try.prog 53 (.pointer (some ⟨g, o, none⟩)) w) (rowIn w g o 66) :=
  loadR_mid w g o _ Try.underlying53 rfl infoSt
theorem knownQ (w : World) (b : Nat) (a : Option Addr) (l c : Nat) (h : w.cell? ⟨b, 1, none⟩ = some (.slice a l c)) :
    Calls Try.prog 18 #[.pointer (some ⟨b, 0, none⟩)] w fun e w' => e = .returned (.int .i64 (l : Int)) ∧ w' = w := (known_any w b a l c h).mono fun _ _ h => ⟨h.1, h.2.symm⟩
theorem shownQ (w : World) (b : Nat) (v : Int) (h : w.cell? ⟨b, 3, none⟩ = some (.int .i64 v)) :
    Calls Try.prog 19 #[.pointer (some ⟨b, 0, none⟩)] w fun e w' => e = .returned (.int .i64 v) ∧ w' = w := (shown_any w b v h).mono fun _ _ h => ⟨h.1, h.2.symm⟩
theorem waitsQ (w : World) (b : Nat) (v : Int) (h : w.cell? ⟨b, 69, none⟩ = some (.int .i64 v)) :
    Calls Try.prog 20 #[.pointer (some ⟨b, 0, none⟩)] w fun e w' => e = .returned (.int .i64 v) ∧ w' = w := (waits_any w b v h).mono fun _ _ h => ⟨h.1, h.2.symm⟩
/-- The state behind s frames of a list. -/
def pf (sd : Nat) (ls : List (Nat × Nat)) (s : Nat) : F := playF (newF (sd : Int)) ls s
theorem pf_inv {sd : Nat} (h : sd < 4294967296) (ls : List (Nat × Nat)) (s : Nat) : Inv (s : Int) (8 * (s : Int)) (pf sd ls s) := by
  have := (Inv.new (sd : Int) (by omega) (by omega)).play ls s
  simpa [pf] using this
theorem pf_step (sd : Nat) (ls : List (Nat × Nat)) (s : Nat) : pf sd ls (s + 1) = stepF (pf sd ls s) (inA ls s) := rfl
theorem pf_app (sd : Nat) (ls ms : List (Nat × Nat)) (s : Nat) (h : s ≤ ls.length) : pf sd (ls ++ ms) s = pf sd ls s := by
  have := playF_take (newF (sd : Int)) (ls ++ ms) ls.length s h
  unfold pf
  rw [← this, List.take_left]

section
attribute [local go_sem ↓] exec33 exec_st33
attribute [local go_sem] loadW33 loadI_some rowIn_drew
set_option maxRecDepth 100000 in
set_option maxHeartbeats 8000000 in
theorem wtick_any (w : World) (b sd : Nat) (lv : Value) (lag q s : Nat) (C : Array Value) (ls : List (Nat × Nat)) (h : Wt w b sd lv lag C (pf sd ls s) q ls) (hsd : sd < 4294967296) (hib : InB ls) (hs : s ≤ ls.length) (hl : ls.length ≤ 16384) (hlag : lag ≤ 256) (hq : q ≤ 1000000) :
    Calls Try.prog 17 #[.pointer (some ⟨b, 0, none⟩)] w fun e w' => e = .returned (.int .i64 (tkN ls.length lag s : Int)) ∧
      ∃ C', Wt w' b sd lv lag C' (pf sd ls (s + tkN ls.length lag s)) (wtN q (tkN ls.length lag s) : Int) ls ∧ Touch (fun k => k = b) w w' := by
  obtain ⟨a, c, rfl, hlc, hcm, hnn⟩ := h.sl
  obtain ⟨l, hll⟩ : ∃ l, ls.length = l := ⟨_, rfl⟩
  have hframe : ∀ t, (pf sd ls t) 0 = (t : Int) := fun t => (pf_inv hsd ls t).frame
  have c1 := h.c1
  have c2 := h.c2
  have c3 := h.c3
  rw [hframe] at c3
  rw [hll] at c1 hl hs
  have pK := Lib.hid (fun j => knownQ (w.drewN j) b a l c c1)
  have pS := Lib.hid (fun j => shownQ (w.drewN j) b s c3)
  obtain ⟨m, hm⟩ : ∃ m, m = cap2 l lag s := ⟨_, rfl⟩
  have HT := Lib.hid (show tkN l lag s = goN l lag s m by rw [hm]; rfl)
  have HM := Lib.hid hm
  have HW := Lib.hid h
  have HLL := Lib.hid hll
  have HF := Lib.hid hframe
  have HIB := Lib.hid hib
  have w1 : IntKind.i64.wrap ((l : Int) - lag) = (l : Int) - lag := IntWalk.i64_in _ (by omega)
  have w2 : IntKind.i64.wrap ((l : Int) - lag - s) = (l : Int) - lag - s := IntWalk.i64_in _ (by omega)
  rw [hll]
  clear h hm hframe hib hnn
  go_enter Try.func17, Try.ntmps17
  go_wp2_with fail
  go_step3
  go_wp2_with fail
  go_quiet (first | (go_at_call 18; exact Calls.quiet_of_same (pK.out _)) | (go_at_call 19; exact Calls.quiet_of_same (pS.out _)))
  rw [hll] at HW
  clear hll
  have HW0 := Lib.hid (HW.out.drewN nq)
  have HT0 := Lib.hid (Touch.drewN (Touch.refl (fun k => k = b) w) nq)
  generalize w.drewN nq = W0 at *
  clear pK pS c1 c2 c3 HW
  by_cases h8 : (8 : Int) < (l : Int) - lag - s
  · have hm2 : m = 2 := by rw [HM.out]; unfold cap2; rw [if_pos h8]
    rw [hm2] at HT
    have H8 := Lib.hid h8
    go_wp2_with fail
    clear w1 w2 h8 HM hm2 m
    go_step3
    go_wp2_with fail
    (try rw [decide_eq_true H8.out])
    go_loopw [4, 17] (fun mv iv wr => ∃ (i : Nat) (C' : Array Value), i ≤ 2 ∧ iv = .int .i64 (i : Int) ∧ mv = .int .i64 (i : Int) ∧ (0 < i → s + i + lag ≤ l) ∧ Wt wr b sd (.slice a l c) lag C' (pf sd ls (s + i)) q ls ∧ Touch (fun k => k = b) w wr) (fun _ iv _ => 2 - (intOf iv).toNat)
    case atStart => exact ⟨0, C, by omega, rfl, rfl, fun h => absurd h (Nat.lt_irrefl _), HW0.out, HT0.out⟩
    case round =>
      clear HW0 HT0
      obtain ⟨i, C', hi, rfl, rfl, hil, hE, hT⟩ := hrel
      obtain ⟨t, ht⟩ : ∃ t, s + i = t := ⟨_, rfl⟩
      rw [ht] at hE
      have htl : t ≤ l := by omega
      by_cases hlt : i < 2
      · have i1 : (i : Int) < 2 := by omega
        have c1 := hE.c1
        have c2 := hE.c2
        have c3 := hE.c3
        rw [HF.out] at c3
        have pK := Lib.hid (fun j => knownQ (wr.drewN j) b a l c c1)
        have pS := Lib.hid (fun j => shownQ (wr.drewN j) b t c3)
        have w3 : IntKind.i64.wrap ((t : Int) + lag) = (t : Int) + lag := IntWalk.i64_in _ (by omega)
        have HE := Lib.hid hE
        have HTT := Lib.hid hT
        by_cases hs2 : (l : Int) ≤ (t : Int) + lag
        · have HT2 := Lib.hid (show tkN l lag s = i by rw [HT.out]; unfold goN; omega)
          clear hE hT
          go_wp2_with fail
          go_quiet (first | (go_at_call 18; exact Calls.quiet_of_same (pK.out _)) | (go_at_call 19; exact Calls.quiet_of_same (pS.out _)))
          have HV := Lib.hid (HE.out.drewN nq)
          have HTV := Lib.hid (HTT.out.drewN nq)
          rw [← ht] at HV
          clear HE HTT pK pS c1 c2 c3 w3 hil ht HT
          generalize wr.drewN nq = V at *
          by_cases hk0 : i = 0
          · subst hk0
            have c69 := HV.out.c69
            have f69 := HV.out.fr 69
            have w9 : IntKind.i64.wrap ((q : Int) + 1) = (q : Int) + 1 := IntWalk.i64_in _ (by omega)
            go_wp2_with fail
            (try rw [Exit.noGoto_ret])
            go_ret
            exact ⟨by rw [HT2.out]; rfl, _, by rw [HT2.out]; exact HV.out.waits _, HTV.out.setCell (.inl rfl) _⟩
          · have k0 : ¬ (i : Int) = 0 := by omega
            have HN := Lib.hid (show wtN q i = q by unfold wtN; rw [if_neg hk0])
            go_wp2_with fail
            (try rw [Exit.noGoto_ret])
            go_ret
            exact ⟨by rw [HT2.out]; rfl, _, by rw [HT2.out, HN.out]; exact HV.out, HTV.out⟩
        · have hs3 : ¬ (l : Int) ≤ (t : Int) + lag := hs2
          clear hE hT
          go_wp2_with fail
          go_quiet (first | (go_at_call 18; exact Calls.quiet_of_same (pK.out _)) | (go_at_call 19; exact Calls.quiet_of_same (pS.out _)))
          have HV := Lib.hid (HE.out.drewN nq)
          have HTV := Lib.hid (HTT.out.drewN nq)
          clear HE HTT pK pS c1 c2 c3
          generalize wr.drewN nq = V at *
          have c1 := HV.out.c1
          have c3 := HV.out.c3
          rw [HF.out] at c3
          obtain ⟨g, off, ea, hg, hc⟩ := (ls_row (n := l) (c := c) (by have := HV.out.lst; exact this) HIB.out).2 (by rw [HLL.out]; omega)
          subst ea
          obtain ⟨x, hx⟩ : ∃ x, ls[t]? = some x := ⟨_, List.getElem?_eq_getElem (by rw [HLL.out]; omega)⟩
          have r := hc t (by rw [HLL.out]; omega)
          have hxb := HIB.out _ (List.mem_of_getElem? hx)
          obtain ⟨d0, d1⟩ := I2.inA_get hx
          rw [d0, d1] at r
          obtain ⟨r0, r1⟩ := r
          obtain ⟨L, hL⟩ : ∃ L, L = C'.toList := ⟨_, rfl⟩
          have hLC : stA (pf sd ls t) = L.toArray := by rw [hL, ← HV.out.st.eq]
          obtain ⟨C2, LC2⟩ := let_of (pf sd ls (t + 1))
          have pT := Lib.hid (show ∀ W, Calls Try.prog 46 #[.agg L.toArray, .agg #[.int .u16 (x.1 : Int), .int .u16 (x.2 : Int)]] W fun e w' => e = .returned (.agg C2) ∧ Below W.heap.size W w' from fun W => by
            have := step_any W (pf sd ls t) t (8 * (t : Int)) (inA ls t) (fun j hj => by
              have e : j = 0 ∨ j = 1 := by omega
              rcases e with rfl | rfl
              · rw [d0]; exact hxb.1
              · rw [d1]; exact hxb.2) (pf_inv hsd ls t) (by omega) (by omega) (by omega)
            unfold stV inV at this
            rw [← pf_step, ← LC2.eq, hLC, d0, d1] at this
            exact this)
          have pS := Lib.hid (fun W (h : W.cell? ⟨b, 3, none⟩ = some (.int .i64 (t : Int))) => shown_any W b t h)
          have st := Lib.hid (show ∀ W, RowKit.Below V.heap.size V W → ∃ W', storeR Try.prog 53 (.pointer (some ⟨b, 3, none⟩)) (.agg C2) W = .ok .skip W' ∧ Wt W' b sd (.slice (some ⟨g, off, none⟩) l c) lag C2 (pf sd ls (t + 1)) q ls ∧ Touch (fun k => k = b) w W' from fun W hb => by
            have hEW := HV.out.below hb
            have ht2 : W.there b 3 C2.size := by rw [LC2.size]; exact hEW.there
            refine ⟨_, storeR_mid ht2 LC2.info LC2.one rfl, hEW.stored LC2, ?_⟩
            exact touch_setCells (S := fun k => k = b) (HTV.out.trans (Touch.of_below hb) (fun k hk => .inl hk)) _ (.inl rfl) _ _)
          have hrow : rowIn V.drew b 3 66 = some L := by rw [rowIn_drew, hL]; exact rowIn_of HV.out.mid (by have := HV.out.st.size; simpa using this)
          have j1 : (0 : Int) ≤ (t : Int) := by omega
          have j2 : (t : Int) < (l : Int) := by omega
          obtain ⟨x0, x1⟩ := x
          clear hc hg hx hxb d0 d1 hL hLC LC2 w3 HV HTV HF HIB
          go_upto_region 8 with fail
          go_cut [] (fun wx => Wt wx b sd (.slice (some ⟨g, off, none⟩) l c) lag C2 (pf sd ls (t + 1)) q ls ∧ Touch (fun k => k = b) w wx)
          case first =>
            go_region_law (first | (go_simp; go_at_call 19; refine (pS.out _ (by exact c3)).mono ?_; rintro e w3 ⟨rfl, rfl⟩) | (go_simp; go_at_call 46; refine (pT.out _).mono ?_; rintro e w3 ⟨rfl, h3⟩; obtain ⟨w4, hst, E4⟩ := st.out w3 ⟨h3.os, h3.tape, h3.output, h3.size, h3.block⟩))
            all_goals
              go_wp2_with fail
              go_meet
              exact E4
          case rest =>
            obtain ⟨hE5, hT5⟩ := hcut
            have HE5 := Lib.hid hE5
            have HT5 := Lib.hid hT5
            clear hE5 hT5 st pS pT hrow c1 c3 r0 r1
            go_wp2_with fail
            go_roundw
            case rel =>
              have HR : ∃ (i' : Nat) (C' : Array Value), i' ≤ 2 ∧ Value.int IntKind.i64 ((i : Int) + 1) = .int .i64 (i' : Int) ∧ Value.int IntKind.i64 ((i : Int) + 1) = .int .i64 (i' : Int) ∧ (0 < i' → s + i' + lag ≤ l) ∧ Wt wc b sd (.slice (some ⟨g, off, none⟩) l c) lag C' (pf sd ls (s + i')) q ls ∧ Touch (fun k => k = b) w wc := ⟨i + 1, C2, by omega, by go_num, by go_num, fun _ => by omega, by rw [← Nat.add_assoc, ht]; exact HE5.out, HT5.out⟩
              first
                | exact HR
                | (refine ⟨_, _, _, _, _, _, _, _, _, _, _, _, _, _, _, _, _, _, _, _, _, _, _, _, _, _, _, _, _, _, _, _, _, ?_, rfl⟩; exact HR)
            case measure => simp [intOf]; omega
      · obtain rfl : i = 2 := by omega
        rw [show ((2 : Nat) : Int) = 2 from rfl]
        have HT2 := Lib.hid (show tkN l lag s = 2 by rw [HT.out]; unfold goN; have := hil (by omega); omega)
        have HV := Lib.hid hE
        have HTV := Lib.hid hT
        rw [← ht] at HV
        clear hE hT hlt hi hil ht HT
        go_wp2_with fail
        (try rw [Exit.noGoto_ret])
        go_ret
        exact ⟨by rw [HT2.out]; rfl, _, by rw [HT2.out]; exact HV.out, HTV.out⟩
  · have hm2 : m = 1 := by rw [HM.out]; unfold cap2; rw [if_neg (by omega)]
    rw [hm2] at HT
    have H8 := Lib.hid h8
    go_wp2_with fail
    clear w1 w2 h8 HM hm2 m
    go_step3
    go_wp2_with fail
    (try rw [decide_eq_true H8.out])
    go_loopw [4, 17] (fun mv iv wr => ∃ (i : Nat) (C' : Array Value), i ≤ 1 ∧ iv = .int .i64 (i : Int) ∧ mv = .int .i64 (i : Int) ∧ (0 < i → s + i + lag ≤ l) ∧ Wt wr b sd (.slice a l c) lag C' (pf sd ls (s + i)) q ls ∧ Touch (fun k => k = b) w wr) (fun _ iv _ => 1 - (intOf iv).toNat)
    case atStart => exact ⟨0, C, by omega, rfl, rfl, fun h => absurd h (Nat.lt_irrefl _), HW0.out, HT0.out⟩
    case round =>
      clear HW0 HT0
      obtain ⟨i, C', hi, rfl, rfl, hil, hE, hT⟩ := hrel
      obtain ⟨t, ht⟩ : ∃ t, s + i = t := ⟨_, rfl⟩
      rw [ht] at hE
      have htl : t ≤ l := by omega
      by_cases hlt : i < 1
      · have i1 : (i : Int) < 1 := by omega
        have c1 := hE.c1
        have c2 := hE.c2
        have c3 := hE.c3
        rw [HF.out] at c3
        have pK := Lib.hid (fun j => knownQ (wr.drewN j) b a l c c1)
        have pS := Lib.hid (fun j => shownQ (wr.drewN j) b t c3)
        have w3 : IntKind.i64.wrap ((t : Int) + lag) = (t : Int) + lag := IntWalk.i64_in _ (by omega)
        have HE := Lib.hid hE
        have HTT := Lib.hid hT
        by_cases hs2 : (l : Int) ≤ (t : Int) + lag
        · have HT2 := Lib.hid (show tkN l lag s = i by rw [HT.out]; unfold goN; omega)
          clear hE hT
          go_wp2_with fail
          go_quiet (first | (go_at_call 18; exact Calls.quiet_of_same (pK.out _)) | (go_at_call 19; exact Calls.quiet_of_same (pS.out _)))
          have HV := Lib.hid (HE.out.drewN nq)
          have HTV := Lib.hid (HTT.out.drewN nq)
          rw [← ht] at HV
          clear HE HTT pK pS c1 c2 c3 w3 hil ht HT
          generalize wr.drewN nq = V at *
          by_cases hk0 : i = 0
          · subst hk0
            have c69 := HV.out.c69
            have f69 := HV.out.fr 69
            have w9 : IntKind.i64.wrap ((q : Int) + 1) = (q : Int) + 1 := IntWalk.i64_in _ (by omega)
            go_wp2_with fail
            (try rw [Exit.noGoto_ret])
            go_ret
            exact ⟨by rw [HT2.out]; rfl, _, by rw [HT2.out]; exact HV.out.waits _, HTV.out.setCell (.inl rfl) _⟩
          · exact absurd (by omega) hk0
        · have hs3 : ¬ (l : Int) ≤ (t : Int) + lag := hs2
          clear hE hT
          go_wp2_with fail
          go_quiet (first | (go_at_call 18; exact Calls.quiet_of_same (pK.out _)) | (go_at_call 19; exact Calls.quiet_of_same (pS.out _)))
          have HV := Lib.hid (HE.out.drewN nq)
          have HTV := Lib.hid (HTT.out.drewN nq)
          clear HE HTT pK pS c1 c2 c3
          generalize wr.drewN nq = V at *
          have c1 := HV.out.c1
          have c3 := HV.out.c3
          rw [HF.out] at c3
          obtain ⟨g, off, ea, hg, hc⟩ := (ls_row (n := l) (c := c) (by have := HV.out.lst; exact this) HIB.out).2 (by rw [HLL.out]; omega)
          subst ea
          obtain ⟨x, hx⟩ : ∃ x, ls[t]? = some x := ⟨_, List.getElem?_eq_getElem (by rw [HLL.out]; omega)⟩
          have r := hc t (by rw [HLL.out]; omega)
          have hxb := HIB.out _ (List.mem_of_getElem? hx)
          obtain ⟨d0, d1⟩ := I2.inA_get hx
          rw [d0, d1] at r
          obtain ⟨r0, r1⟩ := r
          obtain ⟨L, hL⟩ : ∃ L, L = C'.toList := ⟨_, rfl⟩
          have hLC : stA (pf sd ls t) = L.toArray := by rw [hL, ← HV.out.st.eq]
          obtain ⟨C2, LC2⟩ := let_of (pf sd ls (t + 1))
          have pT := Lib.hid (show ∀ W, Calls Try.prog 46 #[.agg L.toArray, .agg #[.int .u16 (x.1 : Int), .int .u16 (x.2 : Int)]] W fun e w' => e = .returned (.agg C2) ∧ Below W.heap.size W w' from fun W => by
            have := step_any W (pf sd ls t) t (8 * (t : Int)) (inA ls t) (fun j hj => by
              have e : j = 0 ∨ j = 1 := by omega
              rcases e with rfl | rfl
              · rw [d0]; exact hxb.1
              · rw [d1]; exact hxb.2) (pf_inv hsd ls t) (by omega) (by omega) (by omega)
            unfold stV inV at this
            rw [← pf_step, ← LC2.eq, hLC, d0, d1] at this
            exact this)
          have pS := Lib.hid (fun W (h : W.cell? ⟨b, 3, none⟩ = some (.int .i64 (t : Int))) => shown_any W b t h)
          have st := Lib.hid (show ∀ W, RowKit.Below V.heap.size V W → ∃ W', storeR Try.prog 53 (.pointer (some ⟨b, 3, none⟩)) (.agg C2) W = .ok .skip W' ∧ Wt W' b sd (.slice (some ⟨g, off, none⟩) l c) lag C2 (pf sd ls (t + 1)) q ls ∧ Touch (fun k => k = b) w W' from fun W hb => by
            have hEW := HV.out.below hb
            have ht2 : W.there b 3 C2.size := by rw [LC2.size]; exact hEW.there
            refine ⟨_, storeR_mid ht2 LC2.info LC2.one rfl, hEW.stored LC2, ?_⟩
            exact touch_setCells (S := fun k => k = b) (HTV.out.trans (Touch.of_below hb) (fun k hk => .inl hk)) _ (.inl rfl) _ _)
          have hrow : rowIn V.drew b 3 66 = some L := by rw [rowIn_drew, hL]; exact rowIn_of HV.out.mid (by have := HV.out.st.size; simpa using this)
          have j1 : (0 : Int) ≤ (t : Int) := by omega
          have j2 : (t : Int) < (l : Int) := by omega
          obtain ⟨x0, x1⟩ := x
          clear hc hg hx hxb d0 d1 hL hLC LC2 w3 HV HTV HF HIB
          go_upto_region 8 with fail
          go_cut [] (fun wx => Wt wx b sd (.slice (some ⟨g, off, none⟩) l c) lag C2 (pf sd ls (t + 1)) q ls ∧ Touch (fun k => k = b) w wx)
          case first =>
            go_region_law (first | (go_simp; go_at_call 19; refine (pS.out _ (by exact c3)).mono ?_; rintro e w3 ⟨rfl, rfl⟩) | (go_simp; go_at_call 46; refine (pT.out _).mono ?_; rintro e w3 ⟨rfl, h3⟩; obtain ⟨w4, hst, E4⟩ := st.out w3 ⟨h3.os, h3.tape, h3.output, h3.size, h3.block⟩))
            all_goals
              go_wp2_with fail
              go_meet
              exact E4
          case rest =>
            obtain ⟨hE5, hT5⟩ := hcut
            have HE5 := Lib.hid hE5
            have HT5 := Lib.hid hT5
            clear hE5 hT5 st pS pT hrow c1 c3 r0 r1
            go_wp2_with fail
            go_roundw
            case rel =>
              have HR : ∃ (i' : Nat) (C' : Array Value), i' ≤ 1 ∧ Value.int IntKind.i64 ((i : Int) + 1) = .int .i64 (i' : Int) ∧ Value.int IntKind.i64 ((i : Int) + 1) = .int .i64 (i' : Int) ∧ (0 < i' → s + i' + lag ≤ l) ∧ Wt wc b sd (.slice (some ⟨g, off, none⟩) l c) lag C' (pf sd ls (s + i')) q ls ∧ Touch (fun k => k = b) w wc := ⟨i + 1, C2, by omega, by go_num, by go_num, fun _ => by omega, by rw [← Nat.add_assoc, ht]; exact HE5.out, HT5.out⟩
              first
                | exact HR
                | (refine ⟨_, _, _, _, _, _, _, _, _, _, _, _, _, _, _, _, _, _, _, _, _, _, _, _, _, _, _, _, _, _, _, _, _, ?_, rfl⟩; exact HR)
            case measure => simp [intOf]; omega
      · obtain rfl : i = 1 := by omega
        rw [show ((1 : Nat) : Int) = 1 from rfl]
        have HT2 := Lib.hid (show tkN l lag s = 1 by rw [HT.out]; unfold goN; have := hil (by omega); omega)
        have HV := Lib.hid hE
        have HTV := Lib.hid hT
        rw [← ht] at HV
        clear hE hT hlt hi hil ht HT
        go_wp2_with fail
        (try rw [Exit.noGoto_ret])
        go_ret
        exact ⟨by rw [HT2.out]; rfl, _, by rw [HT2.out]; exact HV.out, HTV.out⟩
end
end Go.Proofs.Ytckkpgopddnkiaa.Spe
namespace Go.Proofs.Ytckkpgopddnkiaa.Spe
open Go.RowKit Go.Shelf Go.Sort Go.Proofs.Ytckkpgopddnkiaa.Byt Go.Proofs.Ytckkpgopddnkiaa.Gm Go.Proofs.Ytckkpgopddnkiaa.RingE Go.Proofs.Ytckkpgopddnkiaa.Num
set_option linter.all false

theorem src_blk {w : World} {g : Nat} {t : TypeId} {cs : List Value} (h : Blk w g t cs.toArray) (n : Nat) : Src w (some ⟨g, 0, none⟩) n cs := by
  refine .inr ⟨_, rfl, fun j u hu => ?_⟩
  have hadd : (⟨g, 0, none⟩ : Addr).add j = ⟨g, j, none⟩ := by unfold Addr.add; split <;> simp_all
  rw [hadd, h.cell j]
  simpa using hu

/-- A copy into an empty slice. -/
theorem app1 (V : World) (z : Nat) (hz : On V 34 2 (.slice (some ⟨z, 0, none⟩) 0 0) 0 []) (a : Option Addr) (l c : Nat) (ls : List (Nat × Nat)) (hll : ls.length = l) (hsrc : Src V a l (lsC ls)) (hl : l ≤ 16384) :
    ∃ a1 c1 w1, (appW #[29, 29] 29 #[.slice (some ⟨z, 0, none⟩) 0 0, .slice a l c]).run Try.prog V = .ok (.slice a1 l c1) w1 ∧ On w1 34 2 (.slice a1 l c1) l (lsC ls) ∧ V.grownBy w1 (some z) ∧ (∀ g, Value.ownBlock (.slice a1 l c1) = some g → g = z ∨ g = V.heap.size) := by
  obtain ⟨i0, hi, hz0, hz1, hz2⟩ := info_parts infoI2
  obtain ⟨v1, w1, hrun, hon, hg1, hv1⟩ := run_append_on (P := Try.prog) V 29 29 34 i0 _ 2 4 Try.underlying29 hi hz0 hz1 hz2 rfl (by omega)
    (.slice (some ⟨z, 0, none⟩) 0 0) 0 [] hz a l c (lsC ls) (by rw [lsC_len, hll]) hsrc (lsC_one ls) (by simp only [maxLen]; omega) (by omega)
  rw [Nat.zero_add, List.nil_append] at hon
  obtain ⟨a1, c1, rfl, _, _⟩ := hon.slice
  refine ⟨a1, c1, w1, hrun, hon, hg1, fun g hg => ?_⟩
  rcases hv1 with e | e
  · rw [e] at hg; simp [Value.ownBlock] at hg; exact .inl hg.symm
  · rw [e] at hg; cases hg; exact .inr rfl
/-- One more. -/
theorem app2 (V : World) (a1 : Option Addr) (l c1 : Nat) (ls : List (Nat × Nat)) (hll : ls.length = l) (hon : On V 34 2 (.slice a1 l c1) l (lsC ls)) (p x y : Nat) (hp : Blk V p 34 #[.int .u16 (x : Int), .int .u16 (y : Int)]) (hl : l ≤ 16384) :
    ∃ a2 c2 w2, (appW #[29, 29] 29 #[.slice a1 l c1, .slice (some ⟨p, 0, none⟩) 1 1]).run Try.prog V = .ok (.slice a2 (l + 1) c2) w2 ∧ On w2 34 2 (.slice a2 (l + 1) c2) (l + 1) (lsC (ls ++ [(x, y)])) ∧ V.grownBy w2 (Value.ownBlock (.slice a1 l c1)) ∧ (∀ g, Value.ownBlock (.slice a2 (l + 1) c2) = some g → Value.ownBlock (.slice a1 l c1) = some g ∨ g = V.heap.size) := by
  obtain ⟨i0, hi, hz0, hz1, hz2⟩ := info_parts infoI2
  obtain ⟨v1, w1, hrun, hon, hg1, hv1⟩ := run_append_on (P := Try.prog) V 29 29 34 i0 _ 2 4 Try.underlying29 hi hz0 hz1 hz2 rfl (by omega)
    (.slice a1 l c1) l (lsC ls) hon (some ⟨p, 0, none⟩) 1 1 (inC (x, y)).toList (by rfl) (src_blk hp 1) (by intro u hu; simp [inC] at hu; rcases hu with rfl | rfl <;> rfl) (by simp only [maxLen]; omega) (by omega)
  rw [← lsC_snoc] at hon
  obtain ⟨a2, c2, rfl, _, _⟩ := hon.slice
  refine ⟨a2, c2, w1, hrun, hon, hg1, fun g hg => ?_⟩
  rcases hv1 with e | e
  · exact .inl (e ▸ hg)
  · rw [e] at hg; cases hg; exact .inr rfl
theorem below_grown {B : Nat} {w V w1 : World} {row : Option Nat} (h : Below B w V) (hg : V.grownBy w1 row) (hr : ∀ g, row = some g → B ≤ g) (hB : B ≤ V.heap.size) : Below B w w1 := h.grown hg hB (fun k e => hr k e)

/-- What both appends leave. -/
def Twice (W : World) (ls : List (Nat × Nat)) (v : Value) (w2 : World) : Prop := On w2 34 2 v ls.length (lsC ls) ∧ Below W.heap.size W w2 ∧ ∀ g, v.ownBlock = some g → W.heap.size ≤ g
section
variable (W : World) (a : Option Addr) (l c x y : Nat) (ls : List (Nat × Nat)) (hll : ls.length = l) (hon : On W 34 2 (.slice a l c) l (lsC ls)) (hl : l ≤ 16384)
include hll hon hl
/-- The pair is laid behind the copy. -/
theorem twice1 : ∃ a1 c1 w1 a2 c2 w2, (appW #[29, 29] 29 #[.slice (some ⟨W.heap.size, 0, none⟩) 0 0, .slice a l c]).run Try.prog (W.alloc (.cells #[] 34)).drew = .ok (.slice a1 l c1) w1 ∧
    (appW #[29, 29] 29 #[.slice a1 l c1, .slice (some ⟨w1.heap.size, 0, none⟩) 1 1]).run Try.prog (w1.alloc (.cells #[.int .u16 (x : Int), .int .u16 (y : Int)] 34)) = .ok (.slice a2 (l + 1) c2) w2 ∧ Below W.heap.size W w1 ∧ Twice W (ls ++ [(x, y)]) (.slice a2 (l + 1) c2) w2 := by
  have hb : Below W.heap.size W (W.alloc (.cells #[] 34)).drew := ((Below.refl _ W).alloc (Nat.le_refl _) _).drew
  obtain ⟨a1, c1, w1, h1, o1, g1, n1⟩ := app1 (W.alloc (.cells #[] 34)).drew W.heap.size ((On.empty W _ _).drew) a l c ls hll ((hon.alloc _).drew.src) hl
  have b1 := below_grown hb g1 (fun g e => by cases e; exact Nat.le_refl _) hb.size
  obtain ⟨a2, c2, w2, h2, o2, g2, n2⟩ := app2 (w1.alloc (.cells #[.int .u16 (x : Int), .int .u16 (y : Int)] 34)) a1 l c1 ls hll (o1.alloc _) w1.heap.size x y (Blk.new _ _ _) hl
  have own1 : ∀ g, Value.ownBlock (.slice a1 l c1) = some g → W.heap.size ≤ g := fun g hg => by
    rcases n1 g hg with e | e
    · omega
    · have := hb.size; omega
  have b2 := below_grown (b1.alloc b1.size (.cells #[.int .u16 (x : Int), .int .u16 (y : Int)] 34)) g2 own1 (b1.alloc b1.size _).size
  refine ⟨a1, c1, w1, a2, c2, w2, h1, h2, b1, ?_, b2, fun g hg => ?_⟩
  · rw [List.length_append, List.length_singleton, hll]; exact o2
  · rcases n2 g hg with e | e
    · exact own1 g e
    · rw [e]; exact (b1.alloc b1.size _).size
/-- The pair is laid ahead of the copy: the empty slice's block at z, the pair's at p. -/
theorem twice2 (V : World) (z p : Nat) (hb : Below W.heap.size W V) (hz : On V 34 2 (.slice (some ⟨z, 0, none⟩) 0 0) 0 []) (hp : Blk V p 34 #[.int .u16 (x : Int), .int .u16 (y : Int)]) (hzp : z ≠ p) (hzW : W.heap.size ≤ z) (hsrc : Src V a l (lsC ls)) :
    ∃ a1 c1 w1 a2 c2 w2, (appW #[29, 29] 29 #[.slice (some ⟨z, 0, none⟩) 0 0, .slice a l c]).run Try.prog V = .ok (.slice a1 l c1) w1 ∧
    (appW #[29, 29] 29 #[.slice a1 l c1, .slice (some ⟨p, 0, none⟩) 1 1]).run Try.prog w1 = .ok (.slice a2 (l + 1) c2) w2 ∧ Below W.heap.size W w1 ∧ Twice W (ls ++ [(x, y)]) (.slice a2 (l + 1) c2) w2 := by
  obtain ⟨a1, c1, w1, h1, o1, g1, n1⟩ := app1 V z hz a l c ls hll hsrc hl
  have b1 := below_grown hb g1 (fun g e => by cases e; exact hzW) hb.size
  have hp1 : Blk w1 p 34 #[.int .u16 (x : Int), .int .u16 (y : Int)] := hp.grown g1 (fun e => hzp (Option.some.inj e).symm)
  obtain ⟨a2, c2, w2, h2, o2, g2, n2⟩ := app2 w1 a1 l c1 ls hll o1 p x y hp1 hl
  have own1 : ∀ g, Value.ownBlock (.slice a1 l c1) = some g → W.heap.size ≤ g := fun g hg => by
    rcases n1 g hg with e | e
    · omega
    · have := hb.size; omega
  have b2 := below_grown b1 g2 own1 b1.size
  refine ⟨a1, c1, w1, a2, c2, w2, h1, h2, b1, ?_, b2, fun g hg => ?_⟩
  · rw [List.length_append, List.length_singleton, hll]; exact o2
  · rcases n2 g hg with e | e
    · exact own1 g e
    · rw [e]; exact b1.size
end
end Go.Proofs.Ytckkpgopddnkiaa.Spe
namespace Go.Proofs.Ytckkpgopddnkiaa.Spe
open Go.RowKit Go.Shelf Go.Sort Go.Proofs.Ytckkpgopddnkiaa.Byt Go.Proofs.Ytckkpgopddnkiaa.Gm Go.Proofs.Ytckkpgopddnkiaa.RingE Go.Proofs.Ytckkpgopddnkiaa.Num
set_option linter.all false

/-- A script in memory: kind, two inputs, how often. -/
def WOps (w : World) (a : Option Addr) (ops : List (Int × Nat × Nat × Int)) : Prop :=
  (∀ o ∈ ops, o.2.1 < 65536 ∧ o.2.2.1 < 65536 ∧ (-9223372036854775808 ≤ o.1 ∧ o.1 ≤ 9223372036854775807) ∧ (-9223372036854775808 ≤ o.2.2.2 ∧ o.2.2.2 ≤ 9223372036854775807)) ∧
  (0 < ops.length → ∃ b off, a = some ⟨b, off, none⟩ ∧ b < w.heap.size ∧ ∀ j o, ops[j]? = some o →
    w.cell? ⟨b, off + j * 4, none⟩ = some (.int .i64 o.1) ∧ w.cell? ⟨b, off + j * 4 + 1, none⟩ = some (.int .u16 (o.2.1 : Int)) ∧ w.cell? ⟨b, off + j * 4 + 1 + 1, none⟩ = some (.int .u16 (o.2.2.1 : Int)) ∧ w.cell? ⟨b, off + j * 4 + 3, none⟩ = some (.int .i64 o.2.2.2))
theorem WOps.below {w w' : World} {a : Option Addr} {ops : List (Int × Nat × Nat × Int)} (h : WOps w a ops) (hb : Below w.heap.size w w') : WOps w' a ops :=
  ⟨h.1, fun hp => by
    obtain ⟨b, off, e, hlt, hc⟩ := h.2 hp
    refine ⟨b, off, e, Nat.lt_of_lt_of_le hlt hb.size, fun j o ho => ?_⟩
    obtain ⟨h0, h1, h2, h3⟩ := hc j o ho
    exact ⟨(hb.cell (p := ⟨b, _, none⟩) hlt).trans h0, (hb.cell (p := ⟨b, _, none⟩) hlt).trans h1, (hb.cell (p := ⟨b, _, none⟩) hlt).trans h2, (hb.cell (p := ⟨b, _, none⟩) hlt).trans h3⟩⟩

/-- The watch beside the document's. -/
structure LX (w W : World) (g d sd : Nat) (lv rv : Value) (lag q s : Nat) (C : Array Value) (ls ms : List (Nat × Nat)) : Prop where
  wt : Wt W g sd lv lag C (pf sd ls s) q ls
  doc : Blk W d 31 #[rv, .int .i64 (lag : Int), .int .i64 (s : Int), .int .i64 (q : Int)]
  rl : On W 34 2 rv ms.length (lsC ms)
  lo : Below w.heap.size w W
  g0 : w.heap.size ≤ g
  d0 : w.heap.size ≤ d
  l0 : ∀ k, lv.ownBlock = some k → w.heap.size ≤ k
  ap : ∀ k, lv.ownBlock = some k → ¬ rv.ownBlock = some k
  hs : s ≤ ls.length
  ib : InB ls
section
variable {w W W' : World} {g d sd lag q s : Nat} {lv rv : Value} {C : Array Value} {ls ms : List (Nat × Nat)}
theorem LX.below (h : LX w W g d sd lv rv lag q s C ls ms) (hb : Below W.heap.size W W') : LX w W' g d sd lv rv lag q s C ls ms :=
  ⟨h.wt.below hb, h.doc.below hb h.doc.lt, h.rl.below hb h.rl.lt, h.lo.trans (hb.mono h.lo.size), h.g0, h.d0, h.l0, h.ap, h.hs, h.ib⟩
theorem LX.drewN (h : LX w W g d sd lv rv lag q s C ls ms) (n : Nat) : LX w (W.drewN n) g d sd lv rv lag q s C ls ms := h.below (below_drewN (Below.refl _ W) n)
theorem LX.gd (h : LX w W g d sd lv rv lag q s C ls ms) : ¬ g = d := Blk.ne_ h.wt.blk h.doc (by decide)
theorem LX.rg (h : LX w W g d sd lv rv lag q s C ls ms) : ¬ rv.ownBlock = some g := On.blk_ne h.rl h.wt.blk (by decide)
theorem LX.rd (h : LX w W g d sd lv rv lag q s C ls ms) : ¬ rv.ownBlock = some d := On.blk_ne h.rl h.doc (by decide)
theorem LX.ld (h : LX w W g d sd lv rv lag q s C ls ms) : ¬ lv.ownBlock = some d := On.blk_ne h.wt.lst h.doc (by decide)
/-- The watch was put one more. -/
theorem LX.put (h : LX w W g d sd lv rv lag q s C ls ls) {lv' : Value} {p : Nat × Nat} (hp : p.1 < 65536 ∧ p.2 < 65536) (hw : Wt W' g sd lv' lag C (pf sd ls s) q (ls ++ [p])) (hT : Touch (fun k => k = g ∨ lv.ownBlock = some k) W W') (ho : ∀ k, lv'.ownBlock = some k → lv.ownBlock = some k ∨ W.heap.size ≤ k) : LX w W' g d sd lv' rv lag q s C (ls ++ [p]) ls := by
  refine ⟨?_, h.doc.touch hT (fun e => e.elim (fun e => h.gd e.symm) (fun e => h.ld e)), h.rl.touch hT (fun k hk e => e.elim (fun e => h.rg (e ▸ hk)) (fun e => h.ap k e hk)), h.lo.trans (hT.below h.lo.size (fun k hk => hk.elim (fun e => e ▸ h.g0) (h.l0 k))), h.g0, h.d0, fun k hk => ?_, fun k hk e => ?_, by have := h.hs; simp; omega, fun x hx => ?_⟩
  · rw [pf_app sd ls [p] s h.hs]; exact hw
  · rcases ho k hk with e | e
    · exact h.l0 k e
    · exact Nat.le_trans h.lo.size e
  · rcases ho k hk with e2 | e2
    · exact h.ap k e2 e
    · have := h.rl.lt k e; omega
  · rcases List.mem_append.1 hx with hx | hx
    · exact h.ib x hx
    · simp at hx; rw [hx]; exact hp
/-- The document's list was lengthened. -/
theorem LX.twice {w2 : World} {rv' : Value} (h : LX w W g d sd lv rv lag q s C ls ms) {ns : List (Nat × Nat)} (ht : Twice W ns rv' w2) : LX w (w2.setCell ⟨d, 0, none⟩ rv') g d sd lv rv' lag q s C ls ns := by
  obtain ⟨hon, hb, hown⟩ := ht
  have h2 := h.below hb
  have hrd : ¬ rv'.ownBlock = some d := On.blk_ne hon h2.doc (by decide)
  have hwt : Wt (w2.setCell ⟨d, 0, none⟩ rv') g sd lv lag C (pf sd ls s) q ls := ⟨h2.wt.st, h2.wt.blk.far (fun e => h.gd e) _, h2.wt.lst.far (fun e => h2.ld e) _⟩
  exact ⟨hwt, Blk.set_ h2.doc 0 _, hon.far (fun e => hrd e) _, h2.lo.setCell h.d0 _, h.g0, h.d0, h.l0, fun k hk e => by
    have := h.wt.lst.lt k hk
    have := hown k e
    omega, h.hs, h.ib⟩
/-- A tick of both. -/
theorem LX.tick (h : LX w W g d sd lv rv lag q s C ls ms) {C' : Array Value} {s' q' : Nat} (hw : Wt W' g sd lv lag C' (pf sd ls s') q' ls) (hT : Touch (fun k => k = g) W W') (hs : s' ≤ ls.length) :
    LX w ((W'.setCell ⟨d, 0, none⟩ rv |>.setCell ⟨d, 1, none⟩ (.int .i64 (lag : Int))) |>.setCell ⟨d, 2, none⟩ (.int .i64 (s' : Int)) |>.setCell ⟨d, 3, none⟩ (.int .i64 (q' : Int))) g d sd lv rv lag q' s' C' ls ms := by
  have hd : Blk W' d 31 #[rv, .int .i64 (lag : Int), .int .i64 (s : Int), .int .i64 (q : Int)] := h.doc.touch hT (fun e => h.gd e.symm)
  have hr : On W' 34 2 rv ms.length (lsC ms) := h.rl.touch hT (fun k hk e => h.rg (e ▸ hk))
  have fr : ∀ (V : World) (j : Nat) (u : Value), Wt V g sd lv lag C' (pf sd ls s') q' ls → Wt (V.setCell ⟨d, j, none⟩ u) g sd lv lag C' (pf sd ls s') q' ls := fun V j u hV => ⟨hV.st, hV.blk.far (fun e => h.gd e) _, hV.lst.far (fun e => h.ld e) _⟩
  have lo : Below w.heap.size w W' := h.lo.trans (hT.below h.lo.size (fun k hk => hk ▸ h.g0))
  exact ⟨fr _ _ _ (fr _ _ _ (fr _ _ _ (fr _ _ _ hw))), Blk.set_ (Blk.set_ (Blk.set_ (Blk.set_ hd 0 _) 1 _) 2 _) 3 _,
    (((hr.far (fun e => h.rd e) _).far (fun e => h.rd e) _).far (fun e => h.rd e) _).far (fun e => h.rd e) _,
    (((lo.setCell h.d0 _).setCell h.d0 _).setCell h.d0 _).setCell h.d0 _, h.g0, h.d0, h.l0, h.ap, hs, h.ib⟩
end
end Go.Proofs.Ytckkpgopddnkiaa.Spe
