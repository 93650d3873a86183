/-
  backstaylaw37: made, awake.
-/
import Derived.Test.YtmceaffoffemlaaMetS
namespace Go.Proofs.Ytmceaffoffemlaa.Met
open Go.RowKit
set_option linter.all false

/-- A table of these bounds that counted these numbers, all of it new since w. -/
structure Tab (w W : World) (t : Nat) (bv cv : Value) (bs ls : List Int) : Prop where
  at_ : TAt W t bv cv bs ls
  low : w.heap.size ≤ t
  own : ∀ g, cv.ownBlock = some g → w.heap.size ≤ g
  below : Below w.heap.size w W
def I64 (l : List Int) : Prop := ∀ y ∈ l, -9223372036854775808 ≤ y ∧ y ≤ 9223372036854775807
theorem I64.take {l : List Int} (h : I64 l) (k : Nat) : I64 (l.take k) := fun y hy => h y (List.mem_of_mem_take hy)
theorem I64.nth {l : List Int} (h : I64 l) {k : Nat} (hk : k < l.length) : -9223372036854775808 ≤ nth l k ∧ nth l k ≤ 9223372036854775807 := h _ (List.mem_of_getElem? (nth_some hk))
theorem Tab.add {w W W' : World} {t : Nat} {bv cv : Value} {bs ls ls' : List Int} (h : Tab w W t bv cv bs ls) (h1 : TAt W' t bv cv bs ls') (ht : Touch (fun g => g = t ∨ cv.ownBlock = some g) W W') : Tab w W' t bv cv bs ls' :=
  ⟨h1, h.low, h.own, h.below.trans (ht.below h.below.size (fun k hk => hk.elim (fun e => e ▸ h.low) (h.own k)))⟩
theorem Tab.after {w W W' : World} {t : Nat} {bv cv : Value} {bs ls : List Int} (h : Tab w W t bv cv bs ls) (hb : Below W.heap.size W W') : Tab w W' t bv cv bs ls :=
  ⟨h.at_.below hb, h.low, h.own, h.below.trans (hb.mono h.below.size)⟩

set_option maxRecDepth 100000 in
set_option maxHeartbeats 4000000 in
theorem made_any (w : World) (a b : Option Addr) (c d : Nat) (bs ls : List Int) (hr : Row .i64 w a bs.length bs) (hlr : Row .i64 w b ls.length ls) (hR : Right bs) (hl : ls.length ≤ 1000) (hI : I64 ls) :
    Calls Try.prog 18 #[.slice a bs.length c, .slice b ls.length d] w fun e w' => ∃ t bv cv, e = .returned (.pointer (some ⟨t, 0, none⟩)) ∧ Tab w w' t bv cv bs ls := by
  have p := Lib.hid (new_ok w a c bs hr hR)
  have HL := Lib.hid hlr
  clear hr hlr hR
  go_enter Try.func18, Try.ntmps18
  go_wp2_with fail
  refine p.out.mono ?_
  rintro e w1 ⟨t, bv, cv, rfl, hT, ht, hcv, hB⟩
  have HT : Tab w w1 t bv cv bs [] := ⟨hT, ht, hcv, hB⟩
  clear hT ht hcv hB p
  go_wp2_with fail
  go_loopw [7] (fun iv wr => ∃ k : Nat, k ≤ ls.length ∧ iv = .int .i64 k ∧ Tab w wr t bv cv bs (ls.take k)) (fun iv _ => ls.length - (intOf iv).toNat)
  case atStart => exact ⟨0, by omega, rfl, by simpa using HT⟩
  case round =>
    obtain ⟨k, hk, rfl, H⟩ := hrel
    by_cases hlt : k < ls.length
    · obtain ⟨gb, ob, rfl, hgb, hcb⟩ := (HL.out.below H.below).2 (by omega)
      have ck := hcb k hlt
      have i0 : (k : Int) < (ls.length : Int) := by omega
      have i1 : (0 : Int) ≤ (k : Int) := by omega
      have p := Lib.hid (add_any wr t bv cv bs (ls.take k) (nth ls k) H.at_ (hI.nth hlt) (by rw [List.length_take]; omega) (hI.take k))
      have e := Lib.hid (take_succ_nth hlt)
      have HH := Lib.hid H
      clear hcb H
      go_wp2_with fail
      refine p.out.mono ?_
      rintro e5 w5 ⟨rfl, h5, ht5⟩
      have H5 := HH.out.add h5 ht5
      rw [← e.out] at H5
      clear h5 ht5
      go_wp2_with fail
      go_roundw
      case rel => exact ⟨k + 1, by omega, by go_num, H5⟩
      case measure => simp [intOf]; omega
    · obtain rfl : k = ls.length := by omega
      have HP := Lib.hid (show ls.take ls.length = ls from List.take_length)
      go_wp2_with fail
      go_ret
      rw [HP.out] at H
      exact ⟨t, bv, cv, rfl, H⟩

theorem row_touch {S : Nat → Prop} {k : IntKind} {w w' : World} {a : Option Addr} {len : Nat} {zs : List Int} (h : Row k w a len zs) (ht : Touch S w w') (hS : ∀ b off, a = some ⟨b, off, none⟩ → ¬ S b) : Row k w' a len zs :=
  ⟨h.1, fun hp => by
    obtain ⟨b, off, e, hlt, hc⟩ := h.2 hp
    exact ⟨b, off, e, Nat.lt_of_lt_of_le hlt ht.size, fun j hj => (ht.cell (p := ⟨b, off + j, none⟩) hlt (hS b off e)).trans (hc j hj)⟩⟩
def b2 : List Int := [10, 20]
def l4 : List Int := [5, 10, 15, 30]
theorem right2 : Right b2 := ⟨fun i hi => by
  have : i = 0 := by simp [b2] at hi; omega
  subst this; decide, by decide, by decide⟩
theorem l4_in : I64 l4 := by
  intro y hy
  simp [l4] at hy
  omega

set_option maxRecDepth 100000 in
set_option maxHeartbeats 4000000 in
theorem awake_any (w : World) : Calls Try.prog 16 #[] w fun e w' => e = .returned (.bool true) ∧ Below w.heap.size w w' := by
  have p := Lib.hid (fun (c : Nat) => new_ok (w.alloc (.cells #[.int .i64 10, .int .i64 20] 3)) (some ⟨w.heap.size, 0, none⟩) c b2 ⟨rfl, fun _ => ⟨w.heap.size, 0, rfl, by simp, fun j hj => by
    have hj2 : j < 2 := hj
    have h0 := (Blk.new w 3 #[.int .i64 10, .int .i64 20]).cell j
    rw [Nat.zero_add, h0]
    obtain rfl | rfl : j = 0 ∨ j = 1 := by omega
    all_goals rfl⟩⟩ right2)
  go_enter Try.func16, Try.ntmps16
  go_wp2_with fail
  refine (p.out _).mono ?_
  rintro e w1 ⟨t, bv, cv, rfl, hT, ht, hcv, hB⟩
  have HT : Tab w w1 t bv cv b2 [] := ⟨hT, by simp at ht; omega, fun g hg => by have := hcv g hg; simp at this; omega, ((Below.refl _ w).alloc (Nat.le_refl _) _).trans (hB.mono (by simp))⟩
  have hz := HT.below.size
  clear hT ht hcv hB p
  go_wp2_with fail
  have HR : Row .i64 (w1.alloc (.cells #[.int .i64 5, .int .i64 10, .int .i64 15, .int .i64 30] 3)) (some ⟨w1.heap.size, 0, none⟩) 4 l4 := ⟨rfl, fun _ => ⟨w1.heap.size, 0, rfl, by simp, fun j hj => by
    have h0 := (Blk.new w1 3 #[.int .i64 5, .int .i64 10, .int .i64 15, .int .i64 30]).cell j
    rw [Nat.zero_add, h0]
    obtain rfl | rfl | rfl | rfl : j = 0 ∨ j = 1 ∨ j = 2 ∨ j = 3 := by omega
    all_goals rfl⟩⟩
  have HT1 := HT.after (W' := w1.alloc (.cells #[.int .i64 5, .int .i64 10, .int .i64 15, .int .i64 30] 3)) ((Below.refl _ w1).alloc (Nat.le_refl _) _)
  have ht1 := HT.at_.box.lt
  have hc1 : ∀ g, cv.ownBlock = some g → g < w1.heap.size := fun g hg => HT.at_.c.lt g hg
  have hz1 : w.heap.size ≤ w1.heap.size := hz
  generalize w1.heap.size = r1 at *
  clear HT
  generalize w1.alloc (.cells #[.int .i64 5, .int .i64 10, .int .i64 15, .int .i64 30] 3) = w2 at *
  go_loopw [18] (fun iv wr => ∃ k : Nat, k ≤ 4 ∧ iv = .int .i64 k ∧ Tab w wr t bv cv b2 (l4.take k) ∧ Row .i64 wr (some ⟨r1, 0, none⟩) 4 l4) (fun iv _ => 4 - (intOf iv).toNat)
  case atStart => exact ⟨0, by omega, rfl, by simpa using HT1, HR⟩
  case round =>
    obtain ⟨k, hk, rfl, H, HRr⟩ := hrel
    by_cases hlt : k < 4
    · obtain ⟨gb, ob, e0, hgb, hcb⟩ := HRr.2 (by omega)
      cases e0
      have ck := hcb k hlt
      rw [Nat.zero_add] at ck
      have i0 : (k : Int) < 4 := by omega
      have i1 : (0 : Int) ≤ (k : Int) := by omega
      have hlt4 : k < l4.length := hlt
      have p := Lib.hid (add_any wr t bv cv b2 (l4.take k) (nth l4 k) H.at_ (l4_in.nth hlt4) (by rw [List.length_take]; omega) (l4_in.take k))
      have e := Lib.hid (take_succ_nth hlt4)
      have HH := Lib.hid H
      have HRR := Lib.hid HRr
      clear hcb H HRr
      go_wp2_with fail
      refine p.out.mono ?_
      rintro e5 w5 ⟨rfl, h5, ht5⟩
      have H5 := HH.out.add h5 ht5
      rw [← e.out] at H5
      have HR5 := row_touch HRR.out ht5 (fun b off e => by
        cases e
        rintro (e' | e')
        · omega
        · have := hc1 _ e'; omega)
      clear h5 ht5
      go_wp2_with fail
      go_roundw
      case rel => exact ⟨k + 1, by omega, by go_num, H5, HR5⟩
      case measure => simp [intOf]; omega
    · obtain rfl : k = 4 := by omega
      have H := (show Tab w wr t bv cv b2 l4 from H)
      have p0 := Lib.hid (count_any wr t bv cv b2 l4 0 H.at_)
      have p1 := Lib.hid (count_any wr t bv cv b2 l4 1 H.at_)
      have p2 := Lib.hid (count_any wr t bv cv b2 l4 2 H.at_)
      have pB := Lib.hid (bound_any wr t bv cv b2 l4 50 H.at_ (by decide))
      have e0 : countI b2 l4 0 = 2 := by decide
      have e1 : countI b2 l4 1 = 1 := by decide
      have e2 : countI b2 l4 2 = 1 := by decide
      have e3 : boundI b2 l4 50 = 10 := by decide
      rw [e0] at p0
      rw [e1] at p1
      rw [e2] at p2
      rw [e3] at pB
      have HH := Lib.hid H
      clear e0 e1 e2 e3 H HRr
      go_wp2_with fail
      refine p0.out.mono ?_
      rintro e w' ⟨rfl, rfl⟩
      go_wp2_with fail
      refine p1.out.mono ?_
      rintro e w' ⟨rfl, rfl⟩
      go_wp2_with fail
      refine p2.out.mono ?_
      rintro e w' ⟨rfl, rfl⟩
      go_wp2_with fail
      refine pB.out.mono ?_
      rintro e w' ⟨rfl, hb⟩
      go_wp2_with fail
      go_ret
      exact ⟨rfl, (HH.out.after hb).below⟩
end Go.Proofs.Ytmceaffoffemlaa.Met
