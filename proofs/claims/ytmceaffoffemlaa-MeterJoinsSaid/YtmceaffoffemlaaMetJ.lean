/-
  meter: slices.Equal at ints; the plain part of Join.
-/
import Derived.Test.YtmceaffoffemlaaMetI
namespace Go.Proofs.Ytmceaffoffemlaa.Met
open Go.RowKit
set_option linter.all false

theorem ext_nth {a b : List Int} (hl : a.length = b.length) (h : ∀ i, i < a.length → nth a i = nth b i) : a = b := by
  apply List.ext_getElem hl
  intro i h1 h2
  rw [nth_get, nth_get]
  exact h i h1
set_option maxRecDepth 100000 in
set_option maxHeartbeats 2000000 in
theorem equal_any (w : World) (a b : Option Addr) (c d : Nat) (xs ys : List Int) (hx : Row .i64 w a xs.length xs) (hy : Row .i64 w b ys.length ys) (hl : xs.length ≤ 1000000) (hl2 : ys.length ≤ 1000000) :
    Calls Try.prog 62 #[.slice a xs.length c, .slice b ys.length d] w fun e w' => e = .returned (.bool (decide (xs = ys))) ∧ ∃ n, w' = w.drewN n := by
  by_cases hne : xs.length = ys.length
  · have hne' : (xs.length : Int) = (ys.length : Int) := by omega
    obtain ⟨yl, hyl⟩ : ∃ yl, yl = ys.length := ⟨_, rfl⟩
    rw [← hyl] at hy hne' ⊢
    have HNE := Lib.hid hne
    have HYL := Lib.hid hyl
    clear hne hyl
    go_enter Try.func62, Try.ntmps62
    go_wp2_with fail
    go_loopw [13] (fun iv wr => ∃ i : Nat, i ≤ xs.length ∧ iv = .int .i64 i ∧ (∀ j, j < i → nth xs j = nth ys j) ∧ ∃ nn, wr = w.drewN nn) (fun iv _ => xs.length - (intOf iv).toNat)
    case atStart => exact ⟨0, by omega, rfl, fun j hj => by omega, 0, rfl⟩
    case round =>
      obtain ⟨i, hi, rfl, hall, nn, rfl⟩ := hrel
      by_cases hlt : i < xs.length
      · obtain ⟨ga, oa, rfl, hga, hca⟩ := hx.2 (by omega)
        obtain ⟨gb, ob, rfl, hgb, hcb⟩ := hy.2 (by omega)
        have c1 := hca i hlt
        have c2 := hcb i (by omega)
        have i0 : (0 : Int) ≤ (i : Int) := by omega
        have i1 : (i : Int) < (xs.length : Int) := by omega
        have i2 : (i : Int) < (yl : Int) := by omega
        clear hca hcb hx hy hne'
        by_cases he : nth xs i = nth ys i
        · have HALL := Lib.hid (show ∀ j, j < i + 1 → nth xs j = nth ys j from fun j hj => by
            by_cases e : j = i
            · subst e; exact he
            · exact hall j (by omega))
          rw [← he] at c2
          clear hall he
          generalize nth xs i = v at *
          go_wp2_with fail
          go_region
          all_goals
            go_wp2_with fail
            go_roundw
            case rel => exact ⟨i + 1, by omega, by go_num, HALL.out, nn + 1, rfl⟩
            case measure => simp [intOf]; omega
        · have HD := Lib.hid (show decide (xs = ys) = false from decide_eq_false (fun e => he (by rw [e])))
          clear hall
          generalize nth xs i = v at *
          generalize nth ys i = u at *
          go_wp2_with fail
          go_region
          all_goals
            go_wp2_with fail
            go_ret
            exact ⟨ret_bool HD.out.symm, nn + 1, rfl⟩
      · have HD := Lib.hid (show decide (xs = ys) = true from decide_eq_true (ext_nth HNE.out (fun j hj => hall j (by omega))))
        obtain rfl : i = xs.length := by omega
        clear hall
        go_wp2_with fail
        go_ret
        exact ⟨ret_bool HD.out.symm, nn, rfl⟩
  · have hne' : ¬ (xs.length : Int) = (ys.length : Int) := by omega
    have HD := Lib.hid (show decide (xs = ys) = false from decide_eq_false (fun e => hne (by rw [e])))
    go_enter Try.func62, Try.ntmps62
    go_wp2_with fail
    go_ret
    exact ⟨ret_bool HD.out.symm, 0, rfl⟩

theorem cnt_app (bs xs ys : List Int) (p : Nat) : cnt bs (xs ++ ys) p = cnt bs xs p + cnt bs ys p := by unfold cnt; rw [List.countP_append]
theorem foldl_min (l : List Int) : ∀ (a b : Int), l.foldl min (min a b) = min a (l.foldl min b) := by
  induction l with
  | nil => intro a b; rfl
  | cons x l ih =>
    intro a b
    simp only [List.foldl_cons]
    rw [Int.min_assoc, ih]
theorem foldl_max (l : List Int) : ∀ (a b : Int), l.foldl max (max a b) = max a (l.foldl max b) := by
  induction l with
  | nil => intro a b; rfl
  | cons x l ih =>
    intro a b
    simp only [List.foldl_cons]
    rw [Int.max_assoc, ih]
theorem lo_app (xs ys : List Int) : lo (xs ++ ys) = if xs.length = 0 then lo ys else if ys.length = 0 then lo xs else min (lo xs) (lo ys) := by
  cases xs with
  | nil => simp
  | cons a r =>
    cases ys with
    | nil => simp
    | cons b q =>
      have := foldl_min q (r.foldl min a) b
      simp [lo, List.foldl_append, this]
theorem hi_app (xs ys : List Int) : hi (xs ++ ys) = if xs.length = 0 then hi ys else if ys.length = 0 then hi xs else max (hi xs) (hi ys) := by
  cases xs with
  | nil => simp
  | cons a r =>
    cases ys with
    | nil => simp
    | cons b q =>
      have := foldl_max q (r.foldl max a) b
      simp [hi, List.foldl_append, this]
end Go.Proofs.Ytmceaffoffemlaa.Met
