/-
  meter, the plain part: places, counts, ends, parts. No program in sight.
-/
import Derived.Test.YtmceaffoffemlaaKit
namespace Go.Proofs.Ytmceaffoffemlaa.Met
open Go.Proofs.Ytmceaffoffemlaa
set_option linter.all false

def place (bs : List Int) (n : Int) : Nat := bs.countP (fun b => decide (b < n))
def cnt (bs ls : List Int) (p : Nat) : Nat := ls.countP (fun x => place bs x == p)
def cts (bs ls : List Int) : List Int := (List.range (bs.length + 1)).map (fun p => (cnt bs ls p : Int))
def lo : List Int → Int
  | [] => 0
  | x :: r => r.foldl min x
def hi : List Int → Int
  | [] => 0
  | x :: r => r.foldl max x
def clampI (x : Int) : Int := max (-9223372036854775808) (min x 9223372036854775807)
def sat (ls : List Int) : Int := ls.foldl (fun s x => clampI (s + x)) 0
def Adj (bs : List Int) : Prop := ∀ i, i + 1 < bs.length → nth bs i < nth bs (i + 1)
def Right (bs : List Int) : Prop := Adj bs ∧ 1 ≤ bs.length ∧ bs.length ≤ 64

theorem nth_some {l : List Int} {k : Nat} (h : k < l.length) : l[k]? = some (nth l k) := by simp [nth, List.getD, h]
theorem nth_get {l : List Int} {k : Nat} (h : k < l.length) : l[k] = nth l k := by simp [nth, List.getD, h]
theorem take_succ_nth {l : List Int} {k : Nat} (h : k < l.length) : l.take (k + 1) = l.take k ++ [nth l k] := by
  rw [List.take_add_one, nth_some h]; rfl
theorem adj_lt {bs : List Int} (h : Adj bs) : ∀ d i, i + d + 1 < bs.length + 0 → nth bs i < nth bs (i + d + 1)
  | 0, i, hi => h i (by omega)
  | d + 1, i, hi => by
    have h1 := adj_lt h d i (by omega)
    have h2 := h (i + d + 1) (by omega)
    have : i + (d + 1) + 1 = i + d + 1 + 1 := by omega
    rw [this]; omega
theorem adj_lt' {bs : List Int} (h : Adj bs) {i j : Nat} (hij : i < j) (hj : j < bs.length) : nth bs i < nth bs j := by
  obtain ⟨d, rfl⟩ : ∃ d, j = i + d + 1 := ⟨j - i - 1, by omega⟩
  exact adj_lt h d i (by omega)
theorem place_take {bs : List Int} {k : Nat} (n : Int) (h : k < bs.length) : place (bs.take (k + 1)) n = place (bs.take k) n + (if nth bs k < n then 1 else 0) := by
  unfold place
  rw [take_succ_nth h, List.countP_append]
  simp [List.countP_cons]
theorem place_le (bs : List Int) (n : Int) : place bs n ≤ bs.length := List.countP_le_length
theorem place_eq {bs : List Int} {n : Int} {i : Nat} (hi : i ≤ bs.length) (h1 : ∀ j, j < i → nth bs j < n) (h2 : ∀ j, i ≤ j → j < bs.length → n ≤ nth bs j) : place bs n = i := by
  unfold place
  rw [← List.take_append_drop i bs, List.countP_append]
  have e1 : (bs.take i).countP (fun b => decide (b < n)) = i := by
    have : (bs.take i).countP (fun b => decide (b < n)) = (bs.take i).length := by
      rw [List.countP_eq_length]
      intro a ha
      obtain ⟨j, hj⟩ := List.getElem?_of_mem ha
      have hjl := (List.getElem?_eq_some_iff.1 hj).1
      rw [List.length_take] at hjl
      rw [List.getElem?_take, if_pos (by omega), nth_some (by omega)] at hj
      cases hj
      simpa using h1 j (by omega)
    rw [this, List.length_take]; omega
  have e2 : (bs.drop i).countP (fun b => decide (b < n)) = 0 := by
    rw [List.countP_eq_zero]
    intro a ha
    obtain ⟨j, hj⟩ := List.getElem?_of_mem ha
    have hjl := (List.getElem?_eq_some_iff.1 hj).1
    rw [List.length_drop] at hjl
    rw [List.getElem?_drop, nth_some (by omega)] at hj
    cases hj
    have := h2 (i + j) (by omega) (by omega)
    simp; omega
  rw [e1, e2]; omega
theorem cnt_take {bs ls : List Int} {k : Nat} (p : Nat) (h : k < ls.length) : cnt bs (ls.take (k + 1)) p = cnt bs (ls.take k) p + (if place bs (nth ls k) = p then 1 else 0) := by
  unfold cnt
  rw [take_succ_nth h, List.countP_append]
  simp [List.countP_cons]
theorem cnt_snoc (bs ls : List Int) (x : Int) (p : Nat) : cnt bs (ls ++ [x]) p = cnt bs ls p + (if place bs x = p then 1 else 0) := by
  unfold cnt
  rw [List.countP_append]
  simp [List.countP_cons]
theorem cnt_le (bs ls : List Int) (p : Nat) : cnt bs ls p ≤ ls.length := List.countP_le_length
theorem cts_len (bs ls : List Int) : (cts bs ls).length = bs.length + 1 := by simp [cts]
theorem cts_nth {bs ls : List Int} {p : Nat} (h : p < bs.length + 1) : nth (cts bs ls) p = cnt bs ls p := by
  simp [nth, List.getD, cts, h]
theorem cts_snoc (bs ls : List Int) (x : Int) : (cts bs ls).set (place bs x) ((cnt bs ls (place bs x) : Int) + 1) = cts bs (ls ++ [x]) := by
  apply List.ext_getElem
  · simp [cts]
  · intro i h1 h2
    simp only [cts, List.length_set, List.length_map, List.length_range] at h1
    rw [List.getElem_set]
    simp only [cts, List.getElem_map, List.getElem_range, cnt_snoc]
    by_cases e : place bs x = i
    · subst e; simp
    · simp [e]
theorem lo_snoc (ls : List Int) (x : Int) : lo (ls ++ [x]) = if ls = [] then x else min (lo ls) x := by
  cases ls with
  | nil => rfl
  | cons a r => simp [lo, List.foldl_append]
theorem hi_snoc (ls : List Int) (x : Int) : hi (ls ++ [x]) = if ls = [] then x else max (hi ls) x := by
  cases ls with
  | nil => rfl
  | cons a r => simp [hi, List.foldl_append]
theorem sat_snoc (ls : List Int) (x : Int) : sat (ls ++ [x]) = clampI (sat ls + x) := by simp [sat, List.foldl_append]
theorem clampI_in (x : Int) : -9223372036854775808 ≤ clampI x ∧ clampI x ≤ 9223372036854775807 := by unfold clampI; omega
theorem sat_in (ls : List Int) : -9223372036854775808 ≤ sat ls ∧ sat ls ≤ 9223372036854775807 := by
  rcases List.eq_nil_or_concat ls with rfl | ⟨a, x, rfl⟩
  · simp [sat]
  · rw [List.concat_eq_append, sat_snoc]; exact clampI_in _
theorem foldl_in {f : Int → Int → Int} {P : Int → Prop} (hf : ∀ a b, P a → P b → P (f a b)) : ∀ (l : List Int) (a : Int), P a → (∀ x ∈ l, P x) → P (l.foldl f a)
  | [], a, ha, _ => ha
  | x :: l, a, ha, h => foldl_in hf l (f a x) (hf a x ha (h x (by simp))) (fun y hy => h y (by simp [hy]))
theorem lo_in {ls : List Int} (h : ∀ x ∈ ls, -9223372036854775808 ≤ x ∧ x ≤ 9223372036854775807) : -9223372036854775808 ≤ lo ls ∧ lo ls ≤ 9223372036854775807 := by
  cases ls with
  | nil => simp [lo]
  | cons a r => exact foldl_in (P := fun x => -9223372036854775808 ≤ x ∧ x ≤ 9223372036854775807) (fun a b ha hb => by omega) r a (h a (by simp)) (fun y hy => h y (by simp [hy]))
theorem hi_in {ls : List Int} (h : ∀ x ∈ ls, -9223372036854775808 ≤ x ∧ x ≤ 9223372036854775807) : -9223372036854775808 ≤ hi ls ∧ hi ls ≤ 9223372036854775807 := by
  cases ls with
  | nil => simp [hi]
  | cons a r => exact foldl_in (P := fun x => -9223372036854775808 ≤ x ∧ x ≤ 9223372036854775807) (fun a b ha hb => by omega) r a (h a (by simp)) (fun y hy => h y (by simp [hy]))

/-! ### Parts -/
def S (f : Nat → Nat) : Nat → Nat
  | 0 => 0
  | k + 1 => S f k + f k
def okP (f : Nat → Nat) (h m k : Nat) : Bool := decide (1 ≤ S f (k + 1) ∧ h * m ≤ 100 * S f (k + 1))
def pt (ok : Nat → Bool) : Nat → Nat → Nat
  | k, 0 => k
  | k, d + 1 => if ok k = true then k else pt ok (k + 1) d
def clampH (h : Int) : Nat := (max 0 (min h 100)).toNat
def partI (bs ls : List Int) (h : Int) : Int := if ls.length = 0 then -1 else (pt (okP (cnt bs ls) (clampH h) ls.length) 0 bs.length : Int)
def boundI (bs ls : List Int) (h : Int) : Int := if partI bs ls h < 0 then 0 else if partI bs ls h < bs.length then min (nth bs (partI bs ls h).toNat) (hi ls) else hi ls
theorem S_le (bs : List Int) : ∀ (ls : List Int) (k : Nat), S (cnt bs ls) k ≤ ls.length
  | [], k => by
    have : ∀ k, S (cnt bs []) k = 0 := fun k => by induction k with | zero => rfl | succ k ih => simp [S, ih, cnt]
    simp [this]
  | x :: ls, k => by
    have h : ∀ k, S (cnt bs (x :: ls)) k = S (cnt bs ls) k + (if place bs x < k then 1 else 0) := by
      intro k
      induction k with
      | zero => simp [S]
      | succ k ih =>
        have e : cnt bs (x :: ls) k = cnt bs ls k + (if place bs x = k then 1 else 0) := by simp [cnt, List.countP_cons]
        simp only [S, ih, e]
        split <;> split <;> split <;> omega
    have := S_le bs ls k
    rw [h, List.length_cons]
    split <;> omega
theorem pt_ge (ok : Nat → Bool) : ∀ d k, k ≤ pt ok k d
  | 0, k => Nat.le_refl _
  | d + 1, k => by
    unfold pt
    split
    · exact Nat.le_refl _
    · have := pt_ge ok d (k + 1); omega
theorem pt_le (ok : Nat → Bool) : ∀ d k, pt ok k d ≤ k + d
  | 0, k => Nat.le_refl _
  | d + 1, k => by
    unfold pt
    split
    · omega
    · have := pt_le ok d (k + 1); omega
theorem pt_mono {ok ok' : Nat → Bool} (h : ∀ k, ok' k = true → ok k = true) : ∀ d k, pt ok k d ≤ pt ok' k d
  | 0, k => Nat.le_refl _
  | d + 1, k => by
    unfold pt
    by_cases c : ok k = true
    · rw [if_pos c]
      split
      · exact Nat.le_refl _
      · have := pt_ge ok' d (k + 1); omega
    · rw [if_neg c, if_neg (fun c' => c (h k c'))]
      exact pt_mono h d (k + 1)
theorem pt_here {ok : Nat → Bool} {k n : Nat} (hk : k < n) (h : ok k = true) : pt ok k (n - k) = k := by
  obtain ⟨d, hd⟩ : ∃ d, n - k = d + 1 := ⟨n - k - 1, by omega⟩
  rw [hd]; simp [pt, h]
theorem pt_next {ok : Nat → Bool} {k n : Nat} (hk : k < n) (h : ¬ ok k = true) : pt ok k (n - k) = pt ok (k + 1) (n - (k + 1)) := by
  obtain ⟨d, hd⟩ : ∃ d, n - k = d + 1 := ⟨n - k - 1, by omega⟩
  have : n - (k + 1) = d := by omega
  rw [hd, this]; simp [pt, h]
theorem part_in (bs ls : List Int) (h : Int) : -1 ≤ partI bs ls h ∧ partI bs ls h ≤ bs.length := by
  unfold partI
  split
  · omega
  · have := pt_le (okP (cnt bs ls) (clampH h) ls.length) bs.length 0
    omega
theorem clampH_mono {a b : Int} (h : a ≤ b) : clampH a ≤ clampH b := by unfold clampH; omega
theorem part_mono (bs ls : List Int) {a b : Int} (h : a ≤ b) : partI bs ls a ≤ partI bs ls b := by
  unfold partI
  split
  · omega
  · have := pt_mono (ok := okP (cnt bs ls) (clampH a) ls.length) (ok' := okP (cnt bs ls) (clampH b) ls.length) (fun k hk => by
      simp only [okP, decide_eq_true_eq] at hk ⊢
      have : clampH a * ls.length ≤ clampH b * ls.length := Nat.mul_le_mul_right _ (clampH_mono h)
      omega) bs.length 0
    omega
theorem bound_mono {bs : List Int} (ls : List Int) (hb : Adj bs) {a b : Int} (h : a ≤ b) : boundI bs ls a ≤ boundI bs ls b := by
  have h1 := part_mono bs ls h
  have h2 := part_in bs ls a
  have h3 := part_in bs ls b
  unfold boundI
  by_cases c1 : partI bs ls a < 0
  · have : ls.length = 0 := by
      unfold partI at c1
      split at c1
      · assumption
      · omega
    have e : partI bs ls b < 0 := by unfold partI; rw [if_pos this]; omega
    rw [if_pos c1, if_pos e]; exact Int.le_refl _
  · have c1' : ¬ partI bs ls b < 0 := by omega
    rw [if_neg c1, if_neg c1']
    by_cases c2 : partI bs ls b < bs.length
    · have c4 : partI bs ls a < bs.length := by omega
      rw [if_pos c4, if_pos c2]
      by_cases c3 : partI bs ls a = partI bs ls b
      · rw [c3]; exact Int.le_refl _
      · have := adj_lt' hb (i := (partI bs ls a).toNat) (j := (partI bs ls b).toNat) (by omega) (by omega)
        omega
    · rw [if_neg c2]
      split
      · omega
      · exact Int.le_refl _
end Go.Proofs.Ytmceaffoffemlaa.Met
