/-
  meter.Flow: the plain part, and the flow in memory.
-/
import Derived.Test.YtmceaffoffemlaaMetE
import Derived.Test.YtmceaffoffemlaaNum3
import Derived.Test.YtmceaffoffemlaaRingI64B
namespace Go.Proofs.Ytmceaffoffemlaa.Flow
open Go.RowKit
set_option linter.all false

def last (t : Nat) (L : List Int) : List Int := L.drop (L.length - t)
theorem last_len (t : Nat) (L : List Int) : (last t L).length = min t L.length := by unfold last; rw [List.length_drop]; omega
theorem last_snoc {t : Nat} (ht : 1 ≤ t) (L : List Int) (x : Int) : RingI64.putL (t : Int) (last t L) x = last t (L ++ [x]) := by
  unfold RingI64.putL
  have hl := last_len t L
  by_cases h : t ≤ L.length
  · have e1 : ((last t L).length : Int) = t := by rw [hl]; omega
    rw [if_pos e1]
    unfold last
    rw [List.drop_drop, List.drop_append_of_le_length (by simp; omega)]
    congr 2
    simp; omega
  · have e1 : ¬ ((last t L).length : Int) = t := by rw [hl]; omega
    rw [if_neg e1]
    unfold last
    have e2 : L.length - t = 0 := by omega
    have e3 : (L ++ [x]).length - t = 0 := by simp; omega
    rw [e2, e3]; rfl
theorem sum_nonneg : ∀ (l : List Int), (∀ x ∈ l, 0 ≤ x) → 0 ≤ l.sum
  | [], _ => by simp
  | x :: l, h => by
    have := sum_nonneg l (fun y hy => h y (by simp [hy]))
    have := h x (by simp)
    simp only [List.sum_cons]; omega
theorem sum_drop_le (l : List Int) (k : Nat) (h : ∀ x ∈ l, 0 ≤ x) : (l.drop k).sum ≤ l.sum := by
  have e : l.sum = (l.take k).sum + (l.drop k).sum := by rw [← List.sum_append, List.take_append_drop]
  have := sum_nonneg (l.take k) (fun x hx => h x (List.mem_of_mem_take hx))
  omega
theorem sum_snoc (l : List Int) (x : Int) : (l ++ [x]).sum = l.sum + x := by simp
/-- What is known of a flow of t ticks after k calls. -/
structure GF (t : Nat) (L : List Int) (now peak all : Int) (k : Nat) : Prop where
  t1 : 1 ≤ t
  t2 : t ≤ 256
  len : L.length ≤ k
  kle : k ≤ 100
  pos : ∀ x ∈ L, 0 ≤ x
  pnow : 0 ≤ now
  tot : all = L.sum + now
  low : (last t L).sum ≤ peak
  high : peak ≤ L.sum
  most : all ≤ k * 1099511627776
theorem GF.zero {t : Nat} (h1 : 1 ≤ t) (h2 : t ≤ 256) : GF t [] 0 0 0 0 := ⟨h1, h2, Nat.le_refl _, by omega, fun x hx => (by cases hx), Int.le_refl _, rfl, by simp [last], by simp, by simp⟩
theorem GF.add {t k : Nat} {L : List Int} {now peak all : Int} (h : GF t L now peak all k) {n : Int} (hn : 0 ≤ n ∧ n ≤ 1099511627776) (hk : k + 1 ≤ 100) : GF t L (now + n) peak (all + n) (k + 1) :=
  ⟨h.t1, h.t2, Nat.le_trans h.len (by omega), hk, h.pos, by have := h.pnow; omega, by have := h.tot; omega, h.low, h.high, by have := h.most; push_cast; omega⟩
theorem GF.tick {t k : Nat} {L : List Int} {now peak all : Int} (h : GF t L now peak all k) (hk : k + 1 ≤ 100) : GF t (L ++ [now]) 0 (max peak (last t (L ++ [now])).sum) all (k + 1) := by
  have hp : ∀ x ∈ L ++ [now], 0 ≤ x := by
    intro x hx
    rcases List.mem_append.1 hx with e | e
    · exact h.pos x e
    · have : x = now := by simpa using e
      rw [this]; exact h.pnow
  refine ⟨h.t1, h.t2, by simp; have := h.len; omega, hk, hp, Int.le_refl _, by rw [sum_snoc]; have := h.tot; omega, Int.le_max_right _ _, ?_, by have := h.most; push_cast; omega⟩
  have h1 := sum_drop_le (L ++ [now]) ((L ++ [now]).length - t) hp
  have h2 := h.high
  have h3 := h.pnow
  unfold last
  rw [sum_snoc] at h1 ⊢
  omega
theorem last_sum {t : Nat} {L : List Int} (h : ∀ x ∈ L, 0 ≤ x) : 0 ≤ (last t L).sum ∧ (last t L).sum ≤ L.sum :=
  ⟨sum_nonneg _ (fun x hx => h x (List.mem_of_mem_drop hx)), sum_drop_le _ _ h⟩
/-- The sum of the last of them, a tick later: the first goes, if there is no room. -/
theorem last_sum_snoc {t : Nat} (ht : 1 ≤ t) (L : List Int) (x : Int) : (last t (L ++ [x])).sum = (last t L).sum - (if (last t L).length = t then nth (last t L) 0 else 0) + x := by
  rw [← last_snoc ht]
  unfold RingI64.putL
  by_cases h : (last t L).length = t
  · rw [if_pos (by omega), if_pos h, sum_snoc]
    cases hl : last t L with
    | nil => rw [hl] at h; simp at h; omega
    | cons a r =>
      have : nth (a :: r) 0 = a := rfl
      rw [this]; simp; omega
  · rw [if_neg (by omega), if_neg h, sum_snoc]; omega

/-! ### In memory -/
structure FAt (W : World) (f r : Nat) (sv : Value) (t : Nat) (L : List Int) (now sum peak all : Int) : Prop where
  box : Blk W f 116 #[.pointer (some ⟨r, 0, none⟩), .int .i64 now, .int .i64 sum, .int .i64 peak, .int .i64 all]
  ring : RingI64.At W r t ((L.length - (last t L).length : Nat) : Int) sv (last t L)
section
variable {W W' : World} {f r t : Nat} {sv : Value} {L : List Int} {now sum peak all : Int}
theorem FAt.below (h : FAt W f r sv t L now sum peak all) (hb : Below W.heap.size W W') : FAt W' f r sv t L now sum peak all :=
  ⟨h.box.below hb h.box.lt, h.ring.touch (Touch.of_below (S := noB) hb) (fun _ _ hn => hn)⟩
theorem FAt.ne_ (h : FAt W f r sv t L now sum peak all) : ∀ k, RingI64.fp r sv k → k ≠ f := by
  intro k hk
  rcases hk with e | e
  · subst e
    exact fun e => Blk.ne_ (t := 116) h.box (e ▸ h.ring.1) (by decide) rfl
  · exact fun e' => h.ring.2.blk_ne h.box (by decide) (e' ▸ e)
theorem FAt.set (h : FAt W f r sv t L now sum peak all) (i : Nat) (u : Value) {now' sum' peak' all' : Int} (e : (#[.pointer (some ⟨r, 0, none⟩), .int .i64 now, .int .i64 sum, .int .i64 peak, .int .i64 all] : Array Value).setIfInBounds i u = #[.pointer (some ⟨r, 0, none⟩), .int .i64 now', .int .i64 sum', .int .i64 peak', .int .i64 all']) :
    FAt (W.setCell ⟨f, i, none⟩ u) f r sv t L now' sum' peak' all' :=
  ⟨e ▸ h.box.set_ i u, h.ring.touch (S := fun k => k = f) ((Touch.refl (fun k => k = f) W).setCell (p := ⟨f, i, none⟩) (.inl rfl) u) (fun k hk e => h.ne_ k hk e)⟩
theorem FAt.cells (h : FAt W f r sv t L now sum peak all) : (W.cell? ⟨f, 0, none⟩ = some (.pointer (some ⟨r, 0, none⟩)) ∧ W.cell? ⟨f, 1, none⟩ = some (.int .i64 now) ∧ W.cell? ⟨f, 2, none⟩ = some (.int .i64 sum) ∧ W.cell? ⟨f, 3, none⟩ = some (.int .i64 peak) ∧ W.cell? ⟨f, 4, none⟩ = some (.int .i64 all)) ∧ ∀ i, W.frozen? ⟨f, i, none⟩ = false :=
  ⟨⟨h.box.cell 0, h.box.cell 1, h.box.cell 2, h.box.cell 3, h.box.cell 4⟩, fun i => h.box.frozen i⟩
end
theorem sum_any (w : World) (f r t : Nat) (sv : Value) (L : List Int) (now sum peak all : Int) (h : FAt w f r sv t L now sum peak all) :
    Calls Try.prog 35 #[.pointer (some ⟨f, 0, none⟩)] w fun e w' => e = .returned (.int .i64 sum) ∧ w = w' := by
  obtain ⟨⟨c0, c1, c2, c3, c4⟩, _⟩ := h.cells
  clear h
  go_enter Try.func35, Try.ntmps35
  go_wp2_with fail
  go_ret
  exact ⟨rfl, rfl⟩
theorem peak_any (w : World) (f r t : Nat) (sv : Value) (L : List Int) (now sum peak all : Int) (h : FAt w f r sv t L now sum peak all) :
    Calls Try.prog 36 #[.pointer (some ⟨f, 0, none⟩)] w fun e w' => e = .returned (.int .i64 peak) ∧ w = w' := by
  obtain ⟨⟨c0, c1, c2, c3, c4⟩, _⟩ := h.cells
  clear h
  go_enter Try.func36, Try.ntmps36
  go_wp2_with fail
  go_ret
  exact ⟨rfl, rfl⟩
theorem all_any (w : World) (f r t : Nat) (sv : Value) (L : List Int) (now sum peak all : Int) (h : FAt w f r sv t L now sum peak all) :
    Calls Try.prog 37 #[.pointer (some ⟨f, 0, none⟩)] w fun e w' => e = .returned (.int .i64 all) ∧ w = w' := by
  obtain ⟨⟨c0, c1, c2, c3, c4⟩, _⟩ := h.cells
  clear h
  go_enter Try.func37, Try.ntmps37
  go_wp2_with fail
  go_ret
  exact ⟨rfl, rfl⟩
theorem held_any (w : World) (n m : Int) (hm : m = max 0 (min n 1099511627776)) :
    Calls Try.prog 73 #[.int .i64 n] w fun e w' => e = .returned (.int .i64 m) ∧ w = w' := by
  have p := Lib.hid (Met.word_clamp w n 0 1099511627776 m (by omega) hm)
  clear hm
  go_enter Try.func73, Try.ntmps73
  go_wp2_with fail
  refine p.out.mono ?_
  rintro e w' ⟨rfl, rfl⟩
  go_wp2_with fail
  go_ret
  exact ⟨rfl, rfl⟩
theorem mean_any (w : World) (f r t : Nat) (sv : Value) (L : List Int) (now sum peak all : Int) (h : FAt w f r sv t L now sum peak all) (hs : -9223372036854775808 ≤ sum ∧ sum ≤ 9223372036854775807) (hl : (last t L).length ≤ 4096) :
    Calls Try.prog 38 #[.pointer (some ⟨f, 0, none⟩)] w fun e w' => e = .returned (.int .i64 (Num.floorV sum (last t L).length)) ∧ ∃ n, w' = w.drewN n := by
  obtain ⟨⟨c0, c1, c2, c3, c4⟩, _⟩ := h.cells
  have p1 := Lib.hid (fun n => (RingI64.len_any (w.drewN n) r t _ sv _ (h.ring.drewN n)).mono (R' := fun e w'' => e = .returned (.int .i64 (last t L).length) ∧ ∃ m, w'' = w.drewN m) (fun _ _ h => ⟨h.1, _, h.2.symm⟩))
  have p2 := Lib.hid (fun n => (Num.wfloor_any (w.drewN n) sum (last t L).length hs.1 hs.2 (by omega) (by omega)).mono (R' := fun e w'' => e = .returned (.int .i64 (Num.floorV sum (last t L).length)) ∧ ∃ m, w'' = w.drewN m) (fun _ _ h => ⟨h.1, _, h.2.symm⟩))
  clear h
  go_enter Try.func38, Try.ntmps38
  go_upto_region 1 with fail
  go_quiet (first | exact p1.out _ | exact p2.out _)
  go_wp2_with fail
  go_ret
  exact ⟨rfl, _, rfl⟩
end Go.Proofs.Ytmceaffoffemlaa.Flow
