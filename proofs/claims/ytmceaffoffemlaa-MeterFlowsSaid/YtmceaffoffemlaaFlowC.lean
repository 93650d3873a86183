/-
  meter.Flow: Tick.
-/
import Derived.Test.YtmceaffoffemlaaFlowB
namespace Go.Proofs.Ytmceaffoffemlaa.Flow
open Go.RowKit
set_option linter.all false

theorem putF_snoc {t : Nat} (ht : 1 ≤ t) (L : List Int) (x : Int) : RingI64.putF (t : Int) ((L.length - (last t L).length : Nat) : Int) (last t L) = (((L ++ [x]).length - (last t (L ++ [x])).length : Nat) : Int) := by
  have h1 := last_len t L
  have h2 := last_len t (L ++ [x])
  have h3 : (L ++ [x]).length = L.length + 1 := by simp
  unfold RingI64.putF
  split <;> omega
theorem at_first (F : Int) (l : List Int) (h : 0 < l.length) : RingI64.atV F l F = nth l 0 := by
  unfold RingI64.atV
  rw [if_neg (by omega), if_neg (by omega)]
  simp
structure Mid (W : World) (f r : Nat) (sv : Value) (t : Nat) (L : List Int) (now sum peak all : Int) : Prop where
  box : Blk W f 116 #[.pointer (some ⟨r, 0, none⟩), .int .i64 now, .int .i64 sum, .int .i64 peak, .int .i64 all]
  ring : RingI64.At W r t ((L.length - (last t L).length : Nat) : Int) sv (last t L)

set_option maxRecDepth 100000 in
set_option maxHeartbeats 4000000 in
theorem tick_any (w : World) (f r t k : Nat) (sv : Value) (L : List Int) (now peak all : Int) (h : FAt w f r sv t L now (last t L).sum peak all) (hg : GF t L now peak all k) (hk : k + 1 ≤ 100) :
    Calls Try.prog 31 #[.pointer (some ⟨f, 0, none⟩)] w fun e w' => e = .returned (.tuple #[]) ∧ ∃ sv', FAt w' f r sv' t (L ++ [now]) 0 (last t (L ++ [now])).sum (max peak (last t (L ++ [now])).sum) all ∧ Left w f r sv w' sv' := by
  have hlen := last_len t L
  have hs := last_sum (t := t) hg.pos
  have hs2 := last_sum_snoc hg.t1 L now
  have ht1 := hg.t1
  have ht2 := hg.t2
  have hL := hg.len
  have htot := hg.tot
  have hmost := hg.most
  have hnow := hg.pnow
  have hb : (L.sum : Int) + now ≤ 109951162777600 := by
    have : (k : Int) * 1099511627776 ≤ 100 * 1099511627776 := Int.mul_le_mul_of_nonneg_right (by omega) (by omega)
    omega
  have hn0 : 0 ≤ nth (last t L) 0 ∧ nth (last t L) 0 ≤ (last t L).sum ∨ (last t L).length ≠ t := by
    by_cases c : (last t L).length = t
    · left
      cases hl : last t L with
      | nil => rw [hl] at c; simp at c; omega
      | cons a l' =>
        have hp : ∀ x ∈ last t L, 0 ≤ x := fun x hx => hg.pos x (List.mem_of_mem_drop hx)
        rw [hl] at hp
        have e : nth (a :: l') 0 = a := rfl
        rw [e]
        have := hp a (by simp)
        have := sum_nonneg l' (fun x hx => hp x (by simp [hx]))
        simp only [List.sum_cons]; omega
    · exact .inr c
  have PF := Lib.hid (putF_snoc ht1 L now)
  have PL := Lib.hid (last_snoc ht1 L now)
  have hlow := hg.low
  obtain ⟨⟨c0, c1, c2, c3, c4⟩, fr⟩ := h.cells
  have H := Lib.hid h
  clear hg h hmost htot
  generalize hl : last t L = l at *
  generalize hlS : last t (L ++ [now]) = lS at *
  generalize hF : ((L.length - l.length : Nat) : Int) = F at *
  have hF0 : 0 ≤ F ∧ F ≤ 1000 := by omega
  have pLen := Lib.hid (fun n => (RingI64.len_any (w.drewN n) r t F sv l (by have := H.out.ring.drewN n; rw [hl, hF] at this; exact this)).mono (R' := fun e w'' => e = .returned (.int .i64 l.length) ∧ ∃ m, w'' = w.drewN m) (fun _ _ h => ⟨h.1, _, h.2.symm⟩))
  have pRoom := Lib.hid (fun n => (RingI64.room_any (w.drewN n) r t F sv l (by have := H.out.ring.drewN n; rw [hl, hF] at this; exact this)).mono (R' := fun e w'' => e = .returned (.int .i64 t) ∧ ∃ m, w'' = w.drewN m) (fun _ _ h => ⟨h.1, _, h.2.symm⟩))
  have f2 := fr 2
  have HL := Lib.hid hl
  have HLS := Lib.hid hlS
  have HLEN := Lib.hid hlen
  have HF := Lib.hid hF
  have HS2 := Lib.hid hs2
  clear hl hlS hF fr hlen hs2
  go_enter Try.func31, Try.ntmps31
  go_upto_region 0 with fail
  go_quiet (first | exact pLen.out _ | exact pRoom.out _)
  have Hq := H.out.below (below_drewN (Below.refl _ w) nq)
  have Tq : Touch (fun k => k = f ∨ RingI64.fp r sv k) w (w.drewN nq) := (Touch.refl _ w).drewN nq
  clear c0 c1 c2 c3 c4 f2 pLen pRoom
  generalize w.drewN nq = wq at *
  have pFirst := Lib.hid (fun n => (RingI64.first_any (wq.drewN n) r t F sv l (by have := Hq.ring.drewN n; rw [HL.out, HF.out] at this; exact this)).mono (R' := fun e w'' => e = .returned (.int .i64 F) ∧ ∃ m, w'' = wq.drewN m) (fun _ _ h => ⟨h.1, _, h.2.symm⟩))
  have pAt := Lib.hid (fun n => (RingI64.at_any (wq.drewN n) r t F F sv l (by have := Hq.ring.drewN n; rw [HL.out, HF.out] at this; exact this) hF0.1 (by omega)).mono (R' := fun e w'' => e = .returned (.tuple #[.int .i64 (RingI64.atV F l F), .int .i64 (RingI64.atE F l.length F)]) ∧ ∃ m, w'' = wq.drewN m) (fun _ _ h => ⟨h.1, by obtain ⟨m, hm⟩ := h.2; exact ⟨n + m, by rw [hm, World.drewN_drewN]⟩⟩))
  obtain ⟨⟨c0, c1, c2, c3, c4⟩, fr⟩ := Hq.cells
  have f2 := fr 2
  have Hq := Lib.hid Hq
  clear fr
  by_cases hfull : l.length = t
  · have hfull' : (l.length : Int) = (t : Int) := by omega
    have hat := Lib.hid (at_first F l (by omega))
    generalize hV : RingI64.atV F l F = V at *
    clear hV
    generalize RingI64.atE F l.length F = EE at *
    have hws : IntKind.i64.wrap (l.sum - V) = l.sum - V := IntWalk.i64_in _ (by have := hat.out; rcases hn0 with h | h <;> omega)
    have HFULL := Lib.hid hfull
    clear hfull
    go_upto_region 1 with fail
    go_quiet (first | exact pFirst.out _ | exact pAt.out _)
    go_upto_region 3 with fail
    have H3 : FAt ((wq.drewN nq).setCell ⟨f, 2, none⟩ (.int .i64 (l.sum - V))) f r sv t L now (l.sum - V) peak all := (Hq.out.below (below_drewN (Below.refl _ wq) nq)).set 2 (.int .i64 (l.sum - V)) rfl
    have T3 : Touch (fun k => k = f ∨ RingI64.fp r sv k) w ((wq.drewN nq).setCell ⟨f, 2, none⟩ (.int .i64 (l.sum - V))) := (Tq.drewN nq).setCell (.inl (.inl rfl)) _
    have hsum : (l.sum - V) + now = lS.sum := by rw [HS2.out, if_pos HFULL.out, hat.out]
    have hS0 : 0 ≤ l.sum - V ∧ l.sum - V ≤ 109951162777600 := by have := hat.out; have := HFULL.out; rcases hn0 with h | h <;> omega
    clear c0 c1 c2 c3 c4 f2 pFirst pAt
    generalize (wq.drewN nq).setCell ⟨f, 2, none⟩ (.int .i64 (l.sum - V)) = w3 at *
    generalize l.sum - V = S0 at *
    obtain ⟨⟨c0, c1, c2, c3, c4⟩, fr⟩ := H3.cells
    have R3 := H3.ring
    rw [HL.out, HF.out] at R3
    have pPut := Lib.hid (RingI64.put_any w3.drew r t F now sv l (R3.drew) hF0.1 (by have := HLEN.out; omega) (by have := HLEN.out; omega) (by omega))
    have H3 := Lib.hid H3
    clear fr R3
    refine wp_region_still_tail 8 (by kernel_rfl) (by kernel_rfl) ?_
    simp only [List.take_succ_cons, List.take_zero, List.drop_succ_cons, List.drop_zero]
    repeat still_step
    refine wpStill_nil ?_
    change wpList _ _ _ _ _ w3.drew
    go_wp2_with fail
    refine pPut.out.mono ?_
    rintro e w4 ⟨rfl, sv4, R4, T4, O4⟩
    rw [PF.out, PL.out] at R4
    have B4 := Blk.touch (w := w3.drew) (H3.out.box.drew) T4 (fun hk => H3.out.ne_ _ hk rfl)
    have T34 : Touch (fun k => k = f ∨ RingI64.fp r sv k) w w4 := Touch.trans (S' := RingI64.fp r sv) T3.drew T4 (fun k hk => .inl (.inr hk))
    have O34 : ∀ k, RingI64.fp r sv4 k → RingI64.fp r sv k ∨ w.heap.size ≤ k := fun k hk => (O4 k hk).imp_right (fun h => Nat.le_trans T3.size (by simpa using h))
    clear c0 c1 c2 c3 c4 T3 T4 O4
    have H4 : FAt w4 f r sv4 t (L ++ [now]) now S0 peak all := ⟨B4, by rw [HLS.out]; exact R4⟩
    clear B4 R4
    obtain ⟨⟨c0, c1, c2, c3, c4⟩, fr⟩ := H4.cells
    have f1 := fr 1
    have f2 := fr 2
    have f3 := fr 3
    have H4 := Lib.hid H4
    clear fr
    obtain ⟨S1, hS1⟩ : ∃ S1, S1 = S0 + now := ⟨_, rfl⟩
    have hwS : IntKind.i64.wrap (S0 + now) = S1 := by rw [hS1]; exact IntWalk.i64_in _ (by omega)
    rw [← hS1] at hsum
    obtain ⟨M, hM⟩ : ∃ M, M = max peak S1 := ⟨_, rfl⟩
    have hmx : (if peak < S1 then S1 else peak) = M := by rw [hM]; omega
    have HM := Lib.hid hM
    have HSUM := Lib.hid hsum
    clear hM hsum hS1
    go_wp2_with fail
    go_region
    all_goals
      go_wp2_with fail
      go_region
      all_goals
        go_wp2_with fail
        go_end0
        rw [← HSUM.out, ← HM.out]
        have HF5 : FAt (((w4.setCell ⟨f, 2, none⟩ (.int .i64 S1)).setCell ⟨f, 1, none⟩ (.int .i64 0)).setCell ⟨f, 3, none⟩ (.int .i64 M)) f r sv4 t (L ++ [now]) 0 S1 M all := ((H4.out.set 2 (.int .i64 S1) (now' := now) (sum' := S1) (peak' := peak) (all' := all) rfl).set 1 (.int .i64 0) (now' := 0) (sum' := S1) (peak' := peak) (all' := all) rfl).set 3 (.int .i64 M) rfl
        exact ⟨rfl, sv4, HF5.below (below_drewN (Below.refl _ _) 2), (((T34.setCell (.inl (.inl rfl)) _).setCell (.inl (.inl rfl)) _).setCell (.inl (.inl rfl)) _).drew.drew, O34⟩
  · have hfull' : ¬ (l.length : Int) = (t : Int) := by omega
    have hsum : l.sum + now = lS.sum := by rw [HS2.out, if_neg hfull]; omega
    have hS0 : 0 ≤ l.sum ∧ l.sum ≤ 109951162777600 := by omega
    have H3 := Hq.out
    have T3 := Tq
    clear c0 c1 c2 c3 c4 f2 pFirst pAt hfull
    go_upto_region 3 with fail
    generalize wq = w3 at *
    generalize l.sum = S0 at *
    obtain ⟨⟨c0, c1, c2, c3, c4⟩, fr⟩ := H3.cells
    have R3 := H3.ring
    rw [HL.out, HF.out] at R3
    have pPut := Lib.hid (RingI64.put_any w3.drew r t F now sv l (R3.drew) hF0.1 (by have := HLEN.out; omega) (by have := HLEN.out; omega) (by omega))
    have H3 := Lib.hid H3
    clear fr R3
    refine wp_region_still_tail 8 (by kernel_rfl) (by kernel_rfl) ?_
    simp only [List.take_succ_cons, List.take_zero, List.drop_succ_cons, List.drop_zero]
    repeat still_step
    refine wpStill_nil ?_
    change wpList _ _ _ _ _ w3.drew
    go_wp2_with fail
    refine pPut.out.mono ?_
    rintro e w4 ⟨rfl, sv4, R4, T4, O4⟩
    rw [PF.out, PL.out] at R4
    have B4 := Blk.touch (w := w3.drew) (H3.out.box.drew) T4 (fun hk => H3.out.ne_ _ hk rfl)
    have T34 : Touch (fun k => k = f ∨ RingI64.fp r sv k) w w4 := Touch.trans (S' := RingI64.fp r sv) T3.drew T4 (fun k hk => .inl (.inr hk))
    have O34 : ∀ k, RingI64.fp r sv4 k → RingI64.fp r sv k ∨ w.heap.size ≤ k := fun k hk => (O4 k hk).imp_right (fun h => Nat.le_trans T3.size (by simpa using h))
    clear c0 c1 c2 c3 c4 T3 T4 O4
    have H4 : FAt w4 f r sv4 t (L ++ [now]) now S0 peak all := ⟨B4, by rw [HLS.out]; exact R4⟩
    clear B4 R4
    obtain ⟨⟨c0, c1, c2, c3, c4⟩, fr⟩ := H4.cells
    have f1 := fr 1
    have f2 := fr 2
    have f3 := fr 3
    have H4 := Lib.hid H4
    clear fr
    obtain ⟨S1, hS1⟩ : ∃ S1, S1 = S0 + now := ⟨_, rfl⟩
    have hwS : IntKind.i64.wrap (S0 + now) = S1 := by rw [hS1]; exact IntWalk.i64_in _ (by omega)
    rw [← hS1] at hsum
    obtain ⟨M, hM⟩ : ∃ M, M = max peak S1 := ⟨_, rfl⟩
    have hmx : (if peak < S1 then S1 else peak) = M := by rw [hM]; omega
    have HM := Lib.hid hM
    have HSUM := Lib.hid hsum
    clear hM hsum hS1
    go_wp2_with fail
    go_region
    all_goals
      go_wp2_with fail
      go_region
      all_goals
        go_wp2_with fail
        go_end0
        rw [← HSUM.out, ← HM.out]
        have HF5 : FAt (((w4.setCell ⟨f, 2, none⟩ (.int .i64 S1)).setCell ⟨f, 1, none⟩ (.int .i64 0)).setCell ⟨f, 3, none⟩ (.int .i64 M)) f r sv4 t (L ++ [now]) 0 S1 M all := ((H4.out.set 2 (.int .i64 S1) (now' := now) (sum' := S1) (peak' := peak) (all' := all) rfl).set 1 (.int .i64 0) (now' := 0) (sum' := S1) (peak' := peak) (all' := all) rfl).set 3 (.int .i64 M) rfl
        exact ⟨rfl, sv4, HF5.below (below_drewN (Below.refl _ _) 2), (((T34.setCell (.inl (.inl rfl)) _).setCell (.inl (.inl rfl)) _).setCell (.inl (.inl rfl)) _).drew.drew, O34⟩
end Go.Proofs.Ytmceaffoffemlaa.Flow
