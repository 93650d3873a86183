/-
  meter: a table in memory; Place, Add.
-/
import Derived.Test.YtmceaffoffemlaaMetA
import Derived.StillTailTactics
import Derived.BigRegion
namespace Go.Proofs.Ytmceaffoffemlaa.Met
open Go.RowKit
set_option linter.all false

theorem on_row {w : World} {e : TypeId} {a : Option Addr} {k : IntKind} {n c : Nat} {zs : List Int} (h : On w e 1 (.slice a n c) n (zs.map (.int k))) : Row k w a n zs := by
  have hl := h.1
  refine ⟨by simpa using hl, fun hp => ?_⟩
  rcases h.form with ⟨_, h0, _⟩ | ⟨g, cap, hv, _, _, _, hlt, hc, _⟩
  · omega
  · cases hv
    refine ⟨g, 0, rfl, hlt, fun j hj => ?_⟩
    rw [Nat.zero_add]
    refine hc j _ ?_
    have hj' : j < zs.length := by simp at hl; omega
    simp [nth, List.getD, hj']
def tb (bv cv : Value) (m s l h : Int) : Array Value := #[bv, cv, .int .i64 m, .int .i64 s, .int .i64 l, .int .i64 h]
structure TAt (W : World) (t : Nat) (bv cv : Value) (bs ls : List Int) : Prop where
  box : Blk W t 97 (tb bv cv ls.length (sat ls) (lo ls) (hi ls))
  b : On W 3 1 bv bs.length (bs.map (.int .i64))
  c : On W 3 1 cv (bs.length + 1) ((cts bs ls).map (.int .i64))
  ne : ∀ g, bv.ownBlock = some g → cv.ownBlock ≠ some g
  right : Right bs
section
variable {W W' : World} {t : Nat} {bv cv : Value} {bs ls : List Int}
theorem TAt.touch {S : Nat → Prop} (h : TAt W t bv cv bs ls) (ht : Touch S W W') (h0 : ¬ S t) (h1 : ∀ g, bv.ownBlock = some g → ¬ S g) (h2 : ∀ g, cv.ownBlock = some g → ¬ S g) : TAt W' t bv cv bs ls :=
  ⟨h.box.touch ht h0, h.b.touch ht h1, h.c.touch ht h2, h.ne, h.right⟩
theorem TAt.below (h : TAt W t bv cv bs ls) (hb : Below W.heap.size W W') : TAt W' t bv cv bs ls :=
  h.touch (Touch.of_below (S := noB) hb) (fun h => h) (fun _ _ h => h) (fun _ _ h => h)
end
theorem place_any (w : World) (t : Nat) (bv cv : Value) (bs ls : List Int) (n : Int) (h : TAt w t bv cv bs ls) :
    Calls Try.prog 19 #[.pointer (some ⟨t, 0, none⟩), .int .i64 n] w fun e w' => e = .returned (.int .i64 (place bs n)) ∧ w = w' := by
  obtain ⟨ab, cb, rfl, hlc, hcm⟩ := h.b.slice
  have p := Lib.hid (search_any w ab cb bs n (on_row h.b) h.right.1 (by have := h.right.2.2; omega))
  have c0 : w.cell? ⟨t, 0, none⟩ = some (.slice ab bs.length cb) := h.box.cell 0
  clear h
  go_enter Try.func19, Try.ntmps19
  go_wp2_with fail
  refine p.out.mono ?_
  rintro e w' ⟨⟨f, rfl⟩, rfl⟩
  go_wp2_with fail
  go_ret
  exact ⟨rfl, rfl⟩

/-- The count is one more; the rest is as it was. -/
structure TAt2 (W : World) (t : Nat) (bv cv : Value) (bs ls : List Int) (x : Int) : Prop where
  box : Blk W t 97 (tb bv cv ls.length (sat ls) (lo ls) (hi ls))
  b : On W 3 1 bv bs.length (bs.map (.int .i64))
  c : On W 3 1 cv (bs.length + 1) ((cts bs (ls ++ [x])).map (.int .i64))
  ne : ∀ g, bv.ownBlock = some g → cv.ownBlock ≠ some g
  right : Right bs
set_option maxRecDepth 100000 in
set_option maxHeartbeats 4000000 in
theorem add_any (w : World) (t : Nat) (bv cv : Value) (bs ls : List Int) (x : Int) (h : TAt w t bv cv bs ls) (hx : -9223372036854775808 ≤ x ∧ x ≤ 9223372036854775807) (hl : ls.length ≤ 1000) (hb : ∀ y ∈ ls, -9223372036854775808 ≤ y ∧ y ≤ 9223372036854775807) :
    Calls Try.prog 49 #[.pointer (some ⟨t, 0, none⟩), .int .i64 x] w fun e w' => e = .returned (.tuple #[]) ∧ TAt w' t bv cv bs (ls ++ [x]) ∧ Touch (fun g => g = t ∨ cv.ownBlock = some g) w w' := by
  rcases h.c.form with ⟨_, h0, _⟩ | ⟨gc, cc, rfl, hcc, hcm, hown, hgc, hcell, hfr⟩
  · omega
  obtain ⟨ab, cb, rfl, hlb, hbm⟩ := h.b.slice
  have hp := place_le bs x
  have hv := cnt_le bs ls (place bs x)
  have cp : w.cell? ⟨gc, place bs x, none⟩ = some (.int .i64 (cnt bs ls (place bs x))) := hcell _ _ (by rw [List.getElem?_map, nth_some (by rw [cts_len]; omega), cts_nth (by omega)]; rfl)
  have fp := hfr (place bs x)
  have c1 : w.cell? ⟨t, 1, none⟩ = some (.slice (some ⟨gc, 0, none⟩) (bs.length + 1) cc) := h.box.cell 1
  have p1 := Lib.hid ((place_any w.drew t _ _ bs ls x (h.below (below_drewN (Below.refl _ w) 1))).mono (R' := fun e w'' => e = .returned (.int .i64 (place bs x)) ∧ w'' = w.drew) (by rintro e w' ⟨rfl, rfl⟩; exact ⟨rfl, rfl⟩))
  have i1 : (0 : Int) ≤ (place bs x : Int) := by omega
  have i2 : (place bs x : Int) < (bs.length : Int) + 1 := by omega
  generalize hpx : place bs x = k at *
  generalize hcv : cnt bs ls k = v at *
  have hw1 : IntKind.i64.wrap ((v : Int) + 1) = (v : Int) + 1 := IntWalk.i64_in _ (by omega)
  go_enter Try.func49, Try.ntmps49
  go_upto_region 0 with fail
  refine wp_region_still_tail 11 (by kernel_rfl) (by kernel_rfl) ?_
  simp only [List.take_succ_cons, List.take_zero, List.drop_succ_cons, List.drop_zero]
  repeat (first | still_step | still_call p1.out)
  refine wpStill_nil ?_
  change wpList _ _ _ _ _ w.drew
  have c0 : w.cell? ⟨t, 0, none⟩ = some (.slice ab bs.length cb) := h.box.cell 0
  have gt : gc ≠ t := fun e => h.c.blk_ne h.box (by decide) (by rw [hown, e])
  have H2 : TAt2 ((w.setCell ⟨gc, k, none⟩ (.int .i64 ((v : Int) + 1))).drew) t (.slice ab bs.length cb) (.slice (some ⟨gc, 0, none⟩) (bs.length + 1) cc) bs ls x := by
    have e1 : (cts bs (ls ++ [x])).map (Value.int .i64) = ((cts bs ls).map (Value.int .i64)).set k (.int .i64 ((v : Int) + 1)) := by rw [← cts_snoc, hpx, hcv, List.map_set]
    refine ⟨(h.box.far (p := ⟨gc, k, none⟩) (fun e => gt e.symm) _).drew, (h.b.far (p := ⟨gc, k, none⟩) (fun e => h.ne _ e hown) _).drew, ?_, h.ne, h.right⟩
    rw [e1]
    exact (h.c.store k _).drew
  have T2 : Touch (fun g => g = t ∨ (Value.slice (some { block := gc, off := 0 }) (bs.length + 1) cc).ownBlock = some g) w ((w.setCell ⟨gc, k, none⟩ (.int .i64 ((v : Int) + 1))).drew) := ((Touch.refl _ w).setCell (.inl (.inr hown)) _).drew
  go_upto_region 1 with fail
  generalize (w.setCell ⟨gc, k, none⟩ (.int .i64 ((v : Int) + 1))).drew = w2 at *
  clear cp fp c1 p1 c0 hw1 hcell hfr
  have hlo := lo_snoc ls x
  have hhi := hi_snoc ls x
  have hlx := lo_in hb
  have hhx := hi_in hb
  have hs := sat_snoc ls x
  have hsx := sat_in ls
  have pA := Lib.hid (fun w => word_add w (sat ls) x hsx hx)
  rw [← hs] at pA
  clear hs
  have f2 := H2.box.frozen 2
  have f4 := H2.box.frozen 4
  have f5 := H2.box.frozen 5
  have k4 : w2.cell? ⟨t, 4, none⟩ = some (.int .i64 (lo ls)) := H2.box.cell 4
  have k5 : w2.cell? ⟨t, 5, none⟩ = some (.int .i64 (hi ls)) := H2.box.cell 5
  generalize hLo : lo (ls ++ [x]) = lo' at *
  generalize hHi : hi (ls ++ [x]) = hi' at *
  generalize hSa : sat (ls ++ [x]) = sa' at *
  have hw4 : IntKind.i64.wrap ((ls.length : Int) + 1) = (ls.length : Int) + 1 := IntWalk.i64_in _ (by omega)
  by_cases hz : ls = []
  · have k2 : w2.cell? ⟨t, 2, none⟩ = some (.int .i64 0) := by have := H2.box.cell 2; rw [hz] at this; exact this
    have hmin : lo' = x := by rw [hlo, if_pos hz]
    have hmax : hi' = x := by rw [hhi, if_pos hz]
    have HZ := Lib.hid hz
    have HLo := Lib.hid (hLo.trans hmin)
    have HHi := Lib.hid (hHi.trans hmax)
    clear hz hlo hhi hLo hHi hmin hmax
    go_upto_region 3 with fail
    have H3 : Blk ((w2.setCell ⟨t, 4, none⟩ (.int .i64 x)).setCell ⟨t, 5, none⟩ (.int .i64 x)) t 97 (tb (.slice ab bs.length cb) (.slice (some ⟨gc, 0, none⟩) (bs.length + 1) cc) ls.length (sat ls) x x) := (H2.box.set_ 4 _).set_ 5 _
    have Hb : On ((w2.setCell ⟨t, 4, none⟩ (.int .i64 x)).setCell ⟨t, 5, none⟩ (.int .i64 x)) 3 1 (.slice ab bs.length cb) bs.length (bs.map (.int .i64)) := (H2.b.far (p := ⟨t, 4, none⟩) (H2.b.blk_ne H2.box (by decide)) _).far (p := ⟨t, 5, none⟩) (H2.b.blk_ne H2.box (by decide)) _
    have Hc : On ((w2.setCell ⟨t, 4, none⟩ (.int .i64 x)).setCell ⟨t, 5, none⟩ (.int .i64 x)) 3 1 (.slice (some ⟨gc, 0, none⟩) (bs.length + 1) cc) (bs.length + 1) ((cts bs (ls ++ [x])).map (.int .i64)) := (H2.c.far (p := ⟨t, 4, none⟩) (H2.c.blk_ne H2.box (by decide)) _).far (p := ⟨t, 5, none⟩) (H2.c.blk_ne H2.box (by decide)) _
    have T3 := (T2.setCell (p := ⟨t, 4, none⟩) (.inl (.inl rfl)) (.int .i64 x)).setCell (p := ⟨t, 5, none⟩) (.inl (.inl rfl)) (.int .i64 x)
    have ne := H2.ne
    generalize (w2.setCell ⟨t, 4, none⟩ (.int .i64 x)).setCell ⟨t, 5, none⟩ (.int .i64 x) = w3 at *
    have hbt := Hb.blk_ne H3 (by decide)
    have hct := Hc.blk_ne H3 (by decide)
    clear H2 T2 k2 k4 k5 f2 f4 f5
    have d4 := H3.cell 4
    have d5 := H3.cell 5
    simp only [tb, List.getElem?_toArray, List.getElem?_cons_succ, List.getElem?_cons_zero] at d4 d5
    have f4 := H3.frozen 4
    have f5 := H3.frozen 5
    have f2 := H3.frozen 2
    have f3 := H3.frozen 3
    have e2 := H3.cell 2
    have e3 := H3.cell 3
    simp only [tb, List.getElem?_toArray, List.getElem?_cons_succ, List.getElem?_cons_zero] at e2 e3
    go_region
    all_goals go_wp2_with fail
    refine (pA.out _).mono ?_
    rintro e w' ⟨rfl, rfl⟩
    go_wp2_with fail
    go_end0
    refine ⟨rfl, ⟨?_, ?_, ?_, ne, h.right⟩, ((((T3.setCell (.inl (.inl rfl)) _).setCell (.inl (.inl rfl)) _).setCell (.inl (.inl rfl)) _).setCell (.inl (.inl rfl)) _).drew⟩
    · have e : tb (.slice ab bs.length cb) (.slice (some ⟨gc, 0, none⟩) (bs.length + 1) cc) (ls ++ [x]).length (sat (ls ++ [x])) (lo (ls ++ [x])) (hi (ls ++ [x])) = ((((tb (.slice ab bs.length cb) (.slice (some ⟨gc, 0, none⟩) (bs.length + 1) cc) ls.length (sat ls) x x).setIfInBounds 4 (.int .i64 x)).setIfInBounds 5 (.int .i64 x)).setIfInBounds 2 (.int .i64 ((ls.length : Int) + 1))).setIfInBounds 3 (.int .i64 sa') := by rw [hSa, HLo.out, HHi.out]; simp [tb]
      rw [e]
      exact ((((H3.set_ 4 _).set_ 5 _).set_ 2 _).set_ 3 _).drew
    · exact ((((Hb.far (p := ⟨t, 4, none⟩) hbt _).far (p := ⟨t, 5, none⟩) hbt _).far (p := ⟨t, 2, none⟩) hbt _).far (p := ⟨t, 3, none⟩) hbt _).drew
    · exact ((((Hc.far (p := ⟨t, 4, none⟩) hct _).far (p := ⟨t, 5, none⟩) hct _).far (p := ⟨t, 2, none⟩) hct _).far (p := ⟨t, 3, none⟩) hct _).drew
  · have k2 : w2.cell? ⟨t, 2, none⟩ = some (.int .i64 ls.length) := H2.box.cell 2
    have hmin : (if x < lo ls then x else lo ls) = lo' := by rw [hlo, if_neg hz]; omega
    have hmax : (if hi ls < x then x else hi ls) = hi' := by rw [hhi, if_neg hz]; omega
    have hne0 : ¬ ((ls.length : Int) = 0) := by have := List.length_pos_iff.2 hz; omega
    clear hz hlo hhi
    go_upto_region 3 with fail
    have H3 := H2.box
    have Hb := H2.b
    have Hc := H2.c
    have T3 := T2
    have ne := H2.ne
    obtain ⟨w3, rfl⟩ : ∃ w3, w3 = w2 := ⟨_, rfl⟩
    have hbt := Hb.blk_ne H3 (by decide)
    have hct := Hc.blk_ne H3 (by decide)
    clear H2 T2 k2 k4 k5 f2 f4 f5
    have d4 := H3.cell 4
    have d5 := H3.cell 5
    simp only [tb, List.getElem?_toArray, List.getElem?_cons_succ, List.getElem?_cons_zero] at d4 d5
    have f4 := H3.frozen 4
    have f5 := H3.frozen 5
    have f2 := H3.frozen 2
    have f3 := H3.frozen 3
    have e2 := H3.cell 2
    have e3 := H3.cell 3
    simp only [tb, List.getElem?_toArray, List.getElem?_cons_succ, List.getElem?_cons_zero] at e2 e3
    go_region
    all_goals go_wp2_with fail
    refine (pA.out _).mono ?_
    rintro e w' ⟨rfl, rfl⟩
    go_wp2_with fail
    go_end0
    refine ⟨rfl, ⟨?_, ?_, ?_, ne, h.right⟩, ((((T3.setCell (.inl (.inl rfl)) _).setCell (.inl (.inl rfl)) _).setCell (.inl (.inl rfl)) _).setCell (.inl (.inl rfl)) _).drew⟩
    · have e : tb (.slice ab bs.length cb) (.slice (some ⟨gc, 0, none⟩) (bs.length + 1) cc) (ls ++ [x]).length (sat (ls ++ [x])) (lo (ls ++ [x])) (hi (ls ++ [x])) = ((((tb (.slice ab bs.length cb) (.slice (some ⟨gc, 0, none⟩) (bs.length + 1) cc) ls.length (sat ls) (lo ls) (hi ls)).setIfInBounds 4 (.int .i64 lo')).setIfInBounds 5 (.int .i64 hi')).setIfInBounds 2 (.int .i64 ((ls.length : Int) + 1))).setIfInBounds 3 (.int .i64 sa') := by rw [hSa, hLo, hHi]; simp [tb]
      rw [e]
      exact ((((H3.set_ 4 _).set_ 5 _).set_ 2 _).set_ 3 _).drew
    · exact ((((Hb.far (p := ⟨t, 4, none⟩) hbt _).far (p := ⟨t, 5, none⟩) hbt _).far (p := ⟨t, 2, none⟩) hbt _).far (p := ⟨t, 3, none⟩) hbt _).drew
    · exact ((((Hc.far (p := ⟨t, 4, none⟩) hct _).far (p := ⟨t, 5, none⟩) hct _).far (p := ⟨t, 2, none⟩) hct _).far (p := ⟨t, 3, none⟩) hct _).drew
end Go.Proofs.Ytmceaffoffemlaa.Met
