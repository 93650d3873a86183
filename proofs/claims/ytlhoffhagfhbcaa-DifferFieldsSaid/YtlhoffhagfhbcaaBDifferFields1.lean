/-
  Texts joined: Rinv, DfQ. No condition.
-/
import Derived.Test.YtlhoffhagfhbcaaBDiff22
namespace Go.Proofs.Ytlhoffhagfhbcaa
open Go.RowKit Go.Sort
set_option linter.all false

def upd (s : Nat → Bool) (i : Nat) : Nat → Bool := fun j => if j = i then true else s j
theorem upd_of {s : Nat → Bool} {i j : Nat} (h : upd s i j = true) (hn : j ≠ i) : s j = true := by simpa [upd, hn] using h
def puts (a : Act) : List (Tmp × Value) → Act
  | [] => a
  | (d, v) :: r => puts (a.put (some d) v) r
def un (s : Nat → Bool) : Nat → Nat
  | 0 => 0
  | n + 1 => un s n + if s n then 0 else 1
theorem un_le (s : Nat → Bool) (i : Nat) : ∀ n, un (upd s i) n ≤ un s n
  | 0 => Nat.le_refl _
  | n + 1 => by
    have := un_le s i n
    simp only [un]
    by_cases h : n = i
    · have h2 : upd s i n = true := by simp [upd, h]
      rw [h2]; simp; omega
    · have h2 : upd s i n = s n := by simp [upd, h]
      rw [h2]; omega
theorem un_upd (s : Nat → Bool) (i : Nat) (hs : s i = false) : ∀ n, i < n → un (upd s i) n + 1 ≤ un s n
  | 0, h => by omega
  | n + 1, h => by
    by_cases hi : i = n
    · subst hi
      have h1 := un_le s i i
      have h2 : upd s i i = true := by simp [upd]
      simp only [un, h2, hs]
      simp
      exact h1
    · have h1 := un_upd s i hs n (by omega)
      have h2 : upd s i n = s n := by simp [upd, Ne.symm hi]
      simp only [un, h2]
      omega
theorem un_zero {s : Nat → Bool} : ∀ {n}, un s n = 0 → ∀ j, j < n → s j = true
  | 0, _, j, h => by omega
  | n + 1, h0, j, h => by
    simp only [un] at h0
    by_cases hj : j = n
    · subst hj
      by_cases h' : s j = true
      · exact h'
      · simp [h'] at h0
    · have h1 : un s n = 0 := by omega
      exact un_zero h1 j (by omega)

def itailB (l : List Oper) (n : Nat) : Bool :=
  backB l n && decide (n < l.length) && Region.sinkB .any l.toArray n && Region.chainB .any l.toArray n && Region.seqB .any l.toArray (l.length - n) n (endL l n)

section
variable {P : Program} {Q : Exit → Act → World → Prop}
theorem head_inv {l : List Oper} {n : Nat} {Iv : (Nat → Bool) → Act → World → Prop} (hB : itailB l n = true)
    (hstep : ∀ s a w i o, i < n → s i = false → l[i]? = some o → (∀ e ∈ o.after, Region.binds .any e = true → s e.on = true) → Iv s a w → wpOp P l.toArray Q i (Iv (upd s i)) a w)
    (hend : ∀ s a w, (∀ j, j < n → s j = true) → Iv s a w → wpList P l.toArray Q (l.drop n) a w) :
    ∀ (f : Nat) (s : Nat → Bool) (listed : Array Bool) (a : Act) (w : World), HeadInv .any l.toArray n listed → (∀ j, j < n → listed.getD j true = s j) → un s n ≤ f → Iv s a w → wpAny P .any l.toArray Q (f + (l.length - n)) listed a w := by
  simp only [itailB, Bool.and_eq_true, decide_eq_true_eq] at hB
  obtain ⟨⟨⟨⟨hb, hn⟩, hsk⟩, hch⟩, hseq⟩ := hB
  have hdl : (l.drop n).length = l.length - n := by simp
  have hfin : ∀ (s : Nat → Bool) (listed : Array Bool) (a : Act) (w : World), HeadInv .any l.toArray n listed → (∀ j, j < n → listed.getD j true = s j) → (∀ j, j < n → s j = true) → Iv s a w → wpAny P .any l.toArray Q (l.length - n) listed a w := by
    intro s listed a w inv hs hall hI
    have hsz : listed.size = l.length := by simpa using inv.size
    have e : listed = endL l n := by
      apply Array.ext
      · simp [endL, hsz]; omega
      · intro j h1 h2
        by_cases hj : j < n
        · have : listed.getD j true = true := by rw [hs j hj]; exact hall j hj
          simp only [Array.getD_eq_getD_getElem?, Array.getElem?_eq_getElem h1, Option.getD_some] at this
          simp [endL, hj]
          simpa using this
        · have := inv.tail j (by omega) (by simpa [hsz] using h1)
          simp only [Array.getD_eq_getD_getElem?, Array.getElem?_eq_getElem h1, Option.getD_some] at this
          rw [this]
          simp [endL, List.getElem_append, hj]
    have := wpAny_of_seq (md := .any) (Q' := Q) (P := P) (ops := l.toArray) (l.drop n) n listed a w (fun j => by simp [List.getElem?_drop]) (by rw [hdl, e]; exact hseq) (hend s a w hall hI)
    rwa [hdl] at this
  intro f
  induction f with
  | zero =>
    intro s listed a w inv hs hu hI
    rw [Nat.zero_add]
    exact hfin s listed a w inv hs (un_zero (by omega)) hI
  | succ f ih =>
    intro s listed a w inv hs hu hI
    have hsz : listed.size = l.length := by simpa using inv.size
    by_cases hun : ∃ j, j < n ∧ listed.getD j true = false
    · obtain ⟨i, hi, hil, hr⟩ := least_ready hb (by omega) hun
      rw [show f + 1 + (l.length - n) = (f + (l.length - n)) + 1 by omega]
      refine ⟨fun h0 => (by rw [h0] at hr; cases hr), fun j hj => ?_⟩
      have hjn : j < n := by
        rcases Nat.lt_or_ge j n with h' | h'
        · exact h'
        · exact absurd hj (tail_waits hsk hch (by simpa using hn) inv _ i rfl hi hil j h')
      obtain ⟨hjl, o, ho, haf⟩ := mem_ready.1 hj
      obtain ⟨o', ho', -, he⟩ := backB_at hb hjn
      have ho2 : l[j]? = some o := by simpa using ho
      have : o' = o := by rw [ho'] at ho2; exact Option.some.inj ho2
      subst this
      refine wpOp_mono (fun a' w' hI' => ih (upd s j) (listed.setIfInBounds j true) a' w' (inv.set hj hjn) (fun k hk => ?_) (by have := un_upd s j (by rw [← hs j hjn]; exact hjl) n hjn; omega) hI') (hstep s a w j o' hjn (by rw [← hs j hjn]; exact hjl) ho' (fun e hm hbd => ?_) hI)
      · by_cases e : j = k
        · subst e
          have h2 : j < listed.size := by omega
          simp [upd, h2]
        · rw [getD_set_ne true e, hs k hk]; simp [upd, Ne.symm e]
      · have hlt := he e hm hbd
        have h1 : e.on < listed.size := by omega
        have h2 := haf e hm hbd
        rw [← hs e.on (by omega)]
        simp only [Array.getD_eq_getD_getElem?, Array.getElem?_eq_getElem h1, Option.getD_some] at h2 ⊢
        exact h2
    · exact any_add (hfin s listed a w inv hs (fun j hj => by
        rw [← hs j hj]
        cases h : listed.getD j true with
        | true => rfl
        | false => exact absurd ⟨j, hj, h⟩ hun) hI) (f + 1)
theorem un_all : ∀ n, un (fun _ => false) n = n
  | 0 => rfl
  | n + 1 => by simp [un, un_all n]
/-- The head's slots by a list of values, the rest of the frame as it stood. -/
theorem wp_region_inv_tail {id : Nat} {a : Act} {w : World} {l : List Oper} (n : Nat) (ds : List Tmp) (Iv : (Nat → Bool) → List Value → World → Prop) (hm : P.follows .mixedOrders = true) (hB : itailB l n = true)
    (vs0 : List Value) (h0 : puts a (ds.zip vs0) = a) (hI0 : Iv (fun _ => false) vs0 w.drew)
    (hstep : ∀ s vs w i o, i < n → s i = false → l[i]? = some o → (∀ e ∈ o.after, Region.binds .any e = true → s e.on = true) → Iv s vs w → wpOp P l.toArray Q i (fun a' w' => ∃ vs', a' = puts a (ds.zip vs') ∧ Iv (upd s i) vs' w') (puts a (ds.zip vs)) w)
    (hend : ∀ s vs w, (∀ j, j < n → s j = true) → Iv s vs w → wpList P l.toArray Q (l.drop n) (puts a (ds.zip vs)) w) : (Code.region id l.toArray true).wp P Q a w := by
  have hB' := hB
  simp only [itailB, Bool.and_eq_true, decide_eq_true_eq] at hB'
  obtain ⟨⟨⟨⟨hb, hn⟩, hsk⟩, hch⟩, hseq⟩ := hB'
  refine wp_region_any hm ?_
  have := head_inv (Iv := fun s a' w => ∃ vs, a' = puts a (ds.zip vs) ∧ Iv s vs w) hB (fun s a' w i o hi hs ho he hI => by obtain ⟨vs, rfl, hI⟩ := hI; exact hstep s vs w i o hi hs ho he hI) (fun s a' w hs hI => by obtain ⟨vs, rfl, hI⟩ := hI; exact hend s vs w hs hI)
    n (fun _ => false) (Array.replicate l.toArray.size false) a { w with drawn := w.drawn + 1 } ?_ ?_ ?_ ⟨vs0, h0.symm, hI0⟩
  · rw [show n + (l.length - n) = l.toArray.size by simp; omega] at this
    exact this
  · exact ⟨by simp, fun j oj _ hl => (by rw [getD_replicate_false] at hl; cases hl), fun t _ ht => getD_in (by simpa using ht) (getD_replicate_false _ _)⟩
  · intro j hj
    exact getD_in (by simp; omega) (getD_replicate_false _ _)
  · rw [un_all]; exact Nat.le_refl _
/-- One operation, what follows behind a letter. -/
theorem wpOp_let {ops : Array Oper} {i : Nat} {o : Oper} {K : Act → World → Prop} {a : Act} {w : World} (ho : ops[i]? = some o)
    (h : ∀ K' : Act → World → Prop, Hid (∀ a w, K a w → K' a w) → if Region.wanted o (yielded ops a.tmps) = true then Oper.wp P o a w K' Q else K' (a.put o.dst undef) w) : wpOp P ops Q i K a w := by
  have := h K (Lib.hid fun _ _ h => h)
  unfold wpOp
  simp only [ho]
  split
  · rename_i hw; simp only [hw, if_true] at this; exact .inl this
  · rename_i hw; simp only [hw] at this; exact this
end
end Go.Proofs.Ytlhoffhagfhbcaa
namespace Go.Proofs.Ytlhoffhagfhbcaa.Dif
open Go.RowKit Go.Shelf Go.Sort Go.Proofs.Ytlhoffhagfhbcaa.Byt Go.Proofs.Ytlhoffhagfhbcaa.Gm Go.Proofs.Ytlhoffhagfhbcaa.Num Go.Proofs.Ytlhoffhagfhbcaa.Spe
set_option linter.all false

theorem dix_item {f g : F} {k : Nat} : ∀ n, k < (dix f g n).length → ∃ d, (dix f g n)[k]? = some d ∧ d < n ∧ nth (nuC f) d ≠ nth (nuC g) d ∧ (dix f g d).length = k
  | 0, h => by simp [dix_zero] at h
  | n + 1, h => by
    by_cases hd : nth (nuC f) n = nth (nuC g) n
    · rw [dix_no hd] at h ⊢
      obtain ⟨d, h1, h2, h3, h4⟩ := dix_item n h
      exact ⟨d, h1, by omega, h3, h4⟩
    · rw [dix_yes hd] at h ⊢
      by_cases hk : k < (dix f g n).length
      · obtain ⟨d, h1, h2, h3, h4⟩ := dix_item n hk
        exact ⟨d, by rw [List.getElem?_append_left hk]; exact h1, by omega, h3, h4⟩
      · rw [List.length_append, List.length_singleton] at h
        have : k = (dix f g n).length := by omega
        subst this
        exact ⟨n, by simp, by omega, hd, rfl⟩
theorem dixA_item {f g : F} {k : Nat} (h : k < dixN f g) : dixA f g k < 66 ∧ nth (nuC f) (dixA f g k) ≠ nth (nuC g) (dixA f g k) ∧ (dix f g (dixA f g k)).length = k := by
  obtain ⟨d, h1, h2, h3, h4⟩ := dix_item 66 h
  have : dixA f g k = d := by rw [dixA, List.getD, h1]; rfl
  rw [this]
  exact ⟨h2, h3, h4⟩
theorem dix_mono (f g : F) {i j : Nat} (h : i ≤ j) : (dix f g i).length ≤ (dix f g j).length := by
  obtain ⟨r, hr⟩ := dix_pre f g i (j - i)
  rw [show i + (j - i) = j by omega] at hr
  rw [hr, List.length_append]; omega
/-- Where the search for the k-th begins. -/
def stp (f g : F) (k : Nat) : Nat := if k = 0 then 0 else dixA f g (k - 1) + 1
theorem stp_zero (f g : F) : stp f g 0 = 0 := rfl
theorem stp_succ (f g : F) (k : Nat) : stp f g (k + 1) = dixA f g k + 1 := rfl
theorem stp_count {f g : F} {k : Nat} (h : k ≤ dixN f g) : (dix f g (stp f g k)).length = k ∧ stp f g k ≤ 66 := by
  match k, h with
  | 0, _ => exact ⟨rfl, by rw [stp_zero]; omega⟩
  | k + 1, h =>
    obtain ⟨h1, h2, h3⟩ := dixA_item (f := f) (g := g) (k := k) (by omega)
    rw [stp_succ, dix_yes h2, List.length_append, h3]
    exact ⟨rfl, by omega⟩
theorem stp_same {f g : F} {k i : Nat} (hk : k ≤ dixN f g) (h1 : stp f g k ≤ i) (h2 : k < dixN f g → i < dixA f g k) (h3 : i < 66) : nth (nuC f) i = nth (nuC g) i := by
  rcases Classical.em (nth (nuC f) i = nth (nuC g) i) with h | h
  · exact h
  · exfalso
    have c1 := (stp_count hk).1
    have c2 := dix_mono f g h1
    have c3 : (dix f g (i + 1)).length = (dix f g i).length + 1 := by rw [dix_yes h, List.length_append]; rfl
    by_cases hkn : k < dixN f g
    · have c4 := (dixA_item hkn).2.2
      have c5 := dix_mono f g (show i + 1 ≤ dixA f g k by have := h2 hkn; omega)
      omega
    · have c5 := dix_mono f g (show i + 1 ≤ 66 by omega)
      have c6 : (dix f g 66).length = dixN f g := rfl
      omega
theorem stp_le {f g : F} {k : Nat} (hk : k < dixN f g) : stp f g k ≤ dixA f g k := by
  rcases Nat.lt_or_ge (dixA f g k) (stp f g k) with h | h
  · exfalso
    have c1 := (stp_count (Nat.le_of_lt hk)).1
    have c4 := dixA_item hk
    have c5 := dix_mono f g (show dixA f g k + 1 ≤ stp f g k by omega)
    rw [dix_yes c4.2.1, List.length_append, c4.2.2] at c5
    simp at c5
    omega
  · exact h
attribute [local go_sem] Oper.semAt_some
theorem rs_cell (tmps : Array Value) (W : World) (g : Nat) (v : Bool) (h : Blk W g 4 #[.bool v]) (h4 : tmps.getD 4 undef = .pointer (some ⟨g, 0, none⟩)) :
    (results Try.f3 tmps).run Try.prog W = .ok (.bool v) W := by
  have k0 : W.cell? ⟨g, 0, none⟩ = some (.bool v) := Blk.cell h 0
  have e4 : tmps[4]?.getD undef = .pointer (some ⟨g, 0, none⟩) := by simpa using h4
  simp [results, Try.results3, go_sem, e4, k0]
theorem touch_keepX {S X : Nat → Prop} {W V : World} (h : Touch S W V) (hs : ∀ k, S k → X k) : KeepX X W V := ⟨h.size, fun k hk hx _ => h.block k hk (fun e => hx (hs k e))⟩
/-- The boxes of the names and of both states' numbers. -/
structure Bx3 (V : World) (g6 g7 g8 gn cn gx cx gy cy : Nat) (f g : F) : Prop where
  b6 : Blk V g6 35 #[.slice (some ⟨gn, 0, none⟩) 66 cn]
  b7 : Blk V g7 37 #[.slice (some ⟨gx, 0, none⟩) 66 cx]
  b8 : Blk V g8 37 #[.slice (some ⟨gy, 0, none⟩) 66 cy]
  tri : Tri V gn gx gy f g
theorem Tri.lt {V : World} {gn gx gy : Nat} {f g : F} (h : Tri V gn gx gy f g) : gn < V.heap.size ∧ gx < V.heap.size ∧ gy < V.heap.size := by
  obtain ⟨h0, h1, h2⟩ := h 0 (by omega)
  exact ⟨block_lt_of_cell h0, block_lt_of_cell h1, block_lt_of_cell h2⟩
theorem Bx3.below {V V' : World} {g6 g7 g8 gn cn gx cx gy cy : Nat} {f g : F} (h : Bx3 V g6 g7 g8 gn cn gx cx gy cy f g) (b : Bw V V') : Bx3 V' g6 g7 g8 gn cn gx cx gy cy f g := by
  obtain ⟨l0, l1, l2⟩ := h.tri.lt
  exact ⟨Blk.go h.b6 b, Blk.go h.b7 b, Blk.go h.b8 b, fun i hi => ⟨(Below.cell (p := ⟨gn, i, none⟩) b l0).trans (h.tri i hi).1, (Below.cell (p := ⟨gx, i, none⟩) b l1).trans (h.tri i hi).2.1, (Below.cell (p := ⟨gy, i, none⟩) b l2).trans (h.tri i hi).2.2⟩⟩

/-- What has come up of the names and both states' numbers, and of their boxes. -/
structure Hd (C D : Array Value) (f g : F) (W0 : World) (s : Nat → Bool) (v6 v7 v8 v17 v18 v19 v20 v21 : Value) (w : World) : Prop where
  bw : Bw W0 w
  f0 : s 0 = true → ∃ gn cn, v17 = .slice (some ⟨gn, 0, none⟩) 66 cn ∧ ∀ i, i < 66 → gn < w.heap.size ∧ w.cell? ⟨gn, i, none⟩ = some (.string (nmAt i))
  f1 : s 1 = true → v18 = .agg C
  f2 : s 2 = true → ∃ gx cx, v19 = .slice (some ⟨gx, 0, none⟩) 66 cx ∧ ∀ i, i < 66 → gx < w.heap.size ∧ w.cell? ⟨gx, i, none⟩ = some (.int .i64 (nth (nuC f) i))
  f3 : s 3 = true → v20 = .agg D
  f4 : s 4 = true → ∃ gy cy, v21 = .slice (some ⟨gy, 0, none⟩) 66 cy ∧ ∀ i, i < 66 → gy < w.heap.size ∧ w.cell? ⟨gy, i, none⟩ = some (.int .i64 (nth (nuC g) i))
  f5 : s 5 = true → ∃ g6, v6 = .pointer (some ⟨g6, 0, none⟩) ∧ W0.heap.size ≤ g6 ∧ Blk w g6 35 #[.slice none 0 0]
  f6 : s 6 = true → ∃ g7, v7 = .pointer (some ⟨g7, 0, none⟩) ∧ W0.heap.size ≤ g7 ∧ Blk w g7 37 #[.slice none 0 0]
  f7 : s 7 = true → ∃ g8, v8 = .pointer (some ⟨g8, 0, none⟩) ∧ W0.heap.size ≤ g8 ∧ Blk w g8 37 #[.slice none 0 0]
  f8 : s 6 = true → s 7 = true → v7 ≠ v8
theorem cells_go {w w' : World} {k i : Nat} {v : Value} (b : Bw w w') (h : k < w.heap.size ∧ w.cell? ⟨k, i, none⟩ = some v) : k < w'.heap.size ∧ w'.cell? ⟨k, i, none⟩ = some v :=
  ⟨Nat.lt_of_lt_of_le h.1 b.sz, (Below.cell (p := ⟨k, i, none⟩) b h.1).trans h.2⟩
section
variable {C D : Array Value} {f g : F} {W0 w w' : World} {s : Nat → Bool} {v6 v7 v8 v17 v18 v19 v20 v21 v : Value}
theorem Hd.zero (V : World) (b : Bw W0 V) : Hd C D f g W0 (fun _ => false) v6 v7 v8 v17 v18 v19 v20 v21 V := by
  refine ⟨b, ?_, ?_, ?_, ?_, ?_, ?_, ?_, ?_, ?_⟩ <;> (intro h; cases h)
theorem Hd.go (h : Hd C D f g W0 s v6 v7 v8 v17 v18 v19 v20 v21 w) (b : Bw w w') : Hd C D f g W0 s v6 v7 v8 v17 v18 v19 v20 v21 w' where
  bw := Bw.go h.bw b
  f0 hs := by obtain ⟨k, c, e, hc⟩ := h.f0 hs; exact ⟨k, c, e, fun i hi => cells_go b (hc i hi)⟩
  f1 := h.f1
  f2 hs := by obtain ⟨k, c, e, hc⟩ := h.f2 hs; exact ⟨k, c, e, fun i hi => cells_go b (hc i hi)⟩
  f3 := h.f3
  f4 hs := by obtain ⟨k, c, e, hc⟩ := h.f4 hs; exact ⟨k, c, e, fun i hi => cells_go b (hc i hi)⟩
  f5 hs := by obtain ⟨k, e, hk, hc⟩ := h.f5 hs; exact ⟨k, e, hk, Blk.go hc b⟩
  f6 hs := by obtain ⟨k, e, hk, hc⟩ := h.f6 hs; exact ⟨k, e, hk, Blk.go hc b⟩
  f7 hs := by obtain ⟨k, e, hk, hc⟩ := h.f7 hs; exact ⟨k, e, hk, Blk.go hc b⟩
  f8 := h.f8
theorem Hd.op0 (h : Hd C D f g W0 s v6 v7 v8 v17 v18 v19 v20 v21 w) (b : Bw w w') {k c : Nat} (hk : k < w'.heap.size) (hc : ∀ i, i < 66 → w'.cell? ⟨k, i, none⟩ = some (.string (nmAt i))) :
    Hd C D f g W0 (upd s 0) v6 v7 v8 (.slice (some ⟨k, 0, none⟩) 66 c) v18 v19 v20 v21 w' :=
  have h' := h.go b
  ⟨h'.bw, fun _ => ⟨k, c, rfl, fun i hi => ⟨hk, hc i hi⟩⟩, fun e => h'.f1 (upd_of e (by omega)), fun e => h'.f2 (upd_of e (by omega)), fun e => h'.f3 (upd_of e (by omega)), fun e => h'.f4 (upd_of e (by omega)), fun e => h'.f5 (upd_of e (by omega)), fun e => h'.f6 (upd_of e (by omega)), fun e => h'.f7 (upd_of e (by omega)), fun e e' => h'.f8 (upd_of e (by omega)) (upd_of e' (by omega))⟩
theorem Hd.op1 (h' : Hd C D f g W0 s v6 v7 v8 v17 v18 v19 v20 v21 w) : Hd C D f g W0 (upd s 1) v6 v7 v8 v17 (.agg C) v19 v20 v21 w :=
  ⟨h'.bw, fun e => h'.f0 (upd_of e (by omega)), fun _ => rfl, fun e => h'.f2 (upd_of e (by omega)), fun e => h'.f3 (upd_of e (by omega)), fun e => h'.f4 (upd_of e (by omega)), fun e => h'.f5 (upd_of e (by omega)), fun e => h'.f6 (upd_of e (by omega)), fun e => h'.f7 (upd_of e (by omega)), fun e e' => h'.f8 (upd_of e (by omega)) (upd_of e' (by omega))⟩
theorem Hd.op2 (h : Hd C D f g W0 s v6 v7 v8 v17 v18 v19 v20 v21 w) (b : Bw w w') {k c : Nat} (hk : k < w'.heap.size) (hc : ∀ i, i < 66 → w'.cell? ⟨k, i, none⟩ = some (.int .i64 (nth (nuC f) i))) :
    Hd C D f g W0 (upd s 2) v6 v7 v8 v17 v18 (.slice (some ⟨k, 0, none⟩) 66 c) v20 v21 w' :=
  have h' := h.go b
  ⟨h'.bw, fun e => h'.f0 (upd_of e (by omega)), fun e => h'.f1 (upd_of e (by omega)), fun _ => ⟨k, c, rfl, fun i hi => ⟨hk, hc i hi⟩⟩, fun e => h'.f3 (upd_of e (by omega)), fun e => h'.f4 (upd_of e (by omega)), fun e => h'.f5 (upd_of e (by omega)), fun e => h'.f6 (upd_of e (by omega)), fun e => h'.f7 (upd_of e (by omega)), fun e e' => h'.f8 (upd_of e (by omega)) (upd_of e' (by omega))⟩
theorem Hd.op3 (h' : Hd C D f g W0 s v6 v7 v8 v17 v18 v19 v20 v21 w) : Hd C D f g W0 (upd s 3) v6 v7 v8 v17 v18 v19 (.agg D) v21 w :=
  ⟨h'.bw, fun e => h'.f0 (upd_of e (by omega)), fun e => h'.f1 (upd_of e (by omega)), fun e => h'.f2 (upd_of e (by omega)), fun _ => rfl, fun e => h'.f4 (upd_of e (by omega)), fun e => h'.f5 (upd_of e (by omega)), fun e => h'.f6 (upd_of e (by omega)), fun e => h'.f7 (upd_of e (by omega)), fun e e' => h'.f8 (upd_of e (by omega)) (upd_of e' (by omega))⟩
theorem Hd.op4 (h : Hd C D f g W0 s v6 v7 v8 v17 v18 v19 v20 v21 w) (b : Bw w w') {k c : Nat} (hk : k < w'.heap.size) (hc : ∀ i, i < 66 → w'.cell? ⟨k, i, none⟩ = some (.int .i64 (nth (nuC g) i))) :
    Hd C D f g W0 (upd s 4) v6 v7 v8 v17 v18 v19 v20 (.slice (some ⟨k, 0, none⟩) 66 c) w' :=
  have h' := h.go b
  ⟨h'.bw, fun e => h'.f0 (upd_of e (by omega)), fun e => h'.f1 (upd_of e (by omega)), fun e => h'.f2 (upd_of e (by omega)), fun e => h'.f3 (upd_of e (by omega)), fun _ => ⟨k, c, rfl, fun i hi => ⟨hk, hc i hi⟩⟩, fun e => h'.f5 (upd_of e (by omega)), fun e => h'.f6 (upd_of e (by omega)), fun e => h'.f7 (upd_of e (by omega)), fun e e' => h'.f8 (upd_of e (by omega)) (upd_of e' (by omega))⟩
theorem Hd.op5 (h : Hd C D f g W0 s v6 v7 v8 v17 v18 v19 v20 v21 w) :
    Hd C D f g W0 (upd s 5) (.pointer (some ⟨w.heap.size, 0, none⟩)) v7 v8 v17 v18 v19 v20 v21 (w.alloc (.cells #[.slice none 0 0] 35)) :=
  have h' := h.go (Bw.one w _)
  ⟨h'.bw, fun e => h'.f0 (upd_of e (by omega)), fun e => h'.f1 (upd_of e (by omega)), fun e => h'.f2 (upd_of e (by omega)), fun e => h'.f3 (upd_of e (by omega)), fun e => h'.f4 (upd_of e (by omega)), fun _ => ⟨_, rfl, h.bw.sz, Blk.new w _ _⟩, fun e => h'.f6 (upd_of e (by omega)), fun e => h'.f7 (upd_of e (by omega)), fun e e' => h'.f8 (upd_of e (by omega)) (upd_of e' (by omega))⟩
theorem Hd.op6 (h : Hd C D f g W0 s v6 v7 v8 v17 v18 v19 v20 v21 w) :
    Hd C D f g W0 (upd s 6) v6 (.pointer (some ⟨w.heap.size, 0, none⟩)) v8 v17 v18 v19 v20 v21 (w.alloc (.cells #[.slice none 0 0] 37)) :=
  have h' := h.go (Bw.one w _)
  ⟨h'.bw, fun e => h'.f0 (upd_of e (by omega)), fun e => h'.f1 (upd_of e (by omega)), fun e => h'.f2 (upd_of e (by omega)), fun e => h'.f3 (upd_of e (by omega)), fun e => h'.f4 (upd_of e (by omega)), fun e => h'.f5 (upd_of e (by omega)), fun _ => ⟨_, rfl, h.bw.sz, Blk.new w _ _⟩, fun e => h'.f7 (upd_of e (by omega)), fun _ e' => by
    obtain ⟨k, rfl, -, hb⟩ := h.f7 (upd_of e' (by omega))
    have := hb.lt
    intro he
    cases he
    omega⟩
theorem Hd.op7 (h : Hd C D f g W0 s v6 v7 v8 v17 v18 v19 v20 v21 w) :
    Hd C D f g W0 (upd s 7) v6 v7 (.pointer (some ⟨w.heap.size, 0, none⟩)) v17 v18 v19 v20 v21 (w.alloc (.cells #[.slice none 0 0] 37)) :=
  have h' := h.go (Bw.one w _)
  ⟨h'.bw, fun e => h'.f0 (upd_of e (by omega)), fun e => h'.f1 (upd_of e (by omega)), fun e => h'.f2 (upd_of e (by omega)), fun e => h'.f3 (upd_of e (by omega)), fun e => h'.f4 (upd_of e (by omega)), fun e => h'.f5 (upd_of e (by omega)), fun e => h'.f6 (upd_of e (by omega)), fun _ => ⟨_, rfl, h.bw.sz, Blk.new w _ _⟩, fun e _ => by
    obtain ⟨k, rfl, -, hb⟩ := h.f6 (upd_of e (by omega))
    have := hb.lt
    intro he
    cases he
    omega⟩
/-- All has come up. -/
theorem Hd.all (h : Hd C D f g W0 s v6 v7 v8 v17 v18 v19 v20 v21 w) (hs : ∀ j, j < 8 → s j = true) : ∃ g6 g7 g8 gn cn gx cx gy cy,
    v6 = .pointer (some ⟨g6, 0, none⟩) ∧ v7 = .pointer (some ⟨g7, 0, none⟩) ∧ v8 = .pointer (some ⟨g8, 0, none⟩) ∧ v17 = .slice (some ⟨gn, 0, none⟩) 66 cn ∧ v19 = .slice (some ⟨gx, 0, none⟩) 66 cx ∧ v21 = .slice (some ⟨gy, 0, none⟩) 66 cy ∧
    Blk w g6 35 #[.slice none 0 0] ∧ Blk w g7 37 #[.slice none 0 0] ∧ Blk w g8 37 #[.slice none 0 0] ∧ Bw W0 w ∧
    (∀ w', Blk w' g6 35 #[.slice (some ⟨gn, 0, none⟩) 66 cn] → Blk w' g7 37 #[.slice (some ⟨gx, 0, none⟩) 66 cx] → Blk w' g8 37 #[.slice (some ⟨gy, 0, none⟩) 66 cy] → Touch (fun k => k = g6 ∨ k = g7 ∨ k = g8) w w' → Bx3 w' g6 g7 g8 gn cn gx cx gy cy f g ∧ Bw W0 w') ∧ g6 ≠ g7 ∧ g6 ≠ g8 ∧ g7 ≠ g8 := by
  obtain ⟨gn, cn, rfl, hn⟩ := h.f0 (hs 0 (by omega))
  obtain ⟨gx, cx, rfl, hx⟩ := h.f2 (hs 2 (by omega))
  obtain ⟨gy, cy, rfl, hy⟩ := h.f4 (hs 4 (by omega))
  obtain ⟨g6, rfl, l6, h6⟩ := h.f5 (hs 5 (by omega))
  obtain ⟨g7, rfl, l7, h7⟩ := h.f6 (hs 6 (by omega))
  obtain ⟨g8, rfl, l8, h8⟩ := h.f7 (hs 7 (by omega))
  have h78 := h.f8 (hs 6 (by omega)) (hs 7 (by omega))
  have c6 := h6.cell 0
  have c7 := h7.cell 0
  have c8 := h8.cell 0
  simp at c6 c7 c8
  have out : ∀ {k i : Nat} {u : Value}, w.cell? ⟨k, 0, none⟩ = some u → u ≠ .slice none 0 0 → ¬ (k = g6 ∨ k = g7 ∨ k = g8) := by
    intro k i u hu hne e
    rcases e with rfl | rfl | rfl
    · rw [c6] at hu; cases hu; exact hne rfl
    · rw [c7] at hu; cases hu; exact hne rfl
    · rw [c8] at hu; cases hu; exact hne rfl
  have on := out (i := 0) (hn 0 (by omega)).2 (by simp)
  have ox := out (i := 0) (hx 0 (by omega)).2 (by simp)
  have oy := out (i := 0) (hy 0 (by omega)).2 (by simp)
  refine ⟨g6, g7, g8, gn, cn, gx, cx, gy, cy, rfl, rfl, rfl, rfl, rfl, rfl, h6, h7, h8, h.bw, fun w' b6 b7 b8 t => ⟨⟨b6, b7, b8, fun i hi => ⟨?_, ?_, ?_⟩⟩, Bw.touch h.bw t (fun k hk => by rcases hk with rfl | rfl | rfl <;> assumption)⟩, ?_, ?_, ?_⟩
  · exact (Touch.cell (p := ⟨gn, i, none⟩) t (hn i hi).1 on).trans (hn i hi).2
  · exact (Touch.cell (p := ⟨gx, i, none⟩) t (hx i hi).1 ox).trans (hx i hi).2
  · exact (Touch.cell (p := ⟨gy, i, none⟩) t (hy i hi).1 oy).trans (hy i hi).2
  · rintro rfl; unfold Blk at h6 h7; rw [h6] at h7; cases h7
  · rintro rfl; unfold Blk at h6 h8; rw [h6] at h8; cases h8
  · rintro rfl; exact h78 rfl
end

theorem wpList_load_g {P : Program} {ops : Array Oper} {rest : List Oper} {o : Oper} {a : Act} {w : World} {Q : Exit → Act → World → Prop} (hw : Region.wanted o (yielded ops a.tmps) = true) (ty : TypeId) (x : Operand) (ho : o.op = .load ty x)
    (g : Nat) (hx : a.eval x = .pointer (some ⟨g, 0, none⟩)) (t : TypeId) (cs : Array Value) (d : TypeDesc) (hg : Blk w g t cs)
    (hu : P.underlying ty = some d) (hd : (match d with | .struct _ | .array _ _ => true | _ => false) = true) (hi : (P.info? ty).map (·.size) = some cs.size)
    (h : wpList P ops Q rest (a.put o.dst (.agg cs)) w) : wpList P ops Q (o :: rest) a w := by
  unfold wpList
  rw [if_pos hw]
  exact .inl (wp_load_row ty x ho g hx t cs (0, 0) d hg hu hd hi h)
/-- What the cell of an int holds. -/
def atN (g : Nat) (V : World) : Nat := (intOf ((V.cell? ⟨g, 0, none⟩).getD undef)).toNat
theorem atN_eq {g : Nat} {V : World} {i : Nat} (h : Blk V g 3 #[.int .i64 (i : Int)]) : atN g V = i := by
  have := h.cell 0
  simp at this
  rw [atN, this]
  simp [intOf]
theorem touch_at (g : Nat) (V : World) (n : Nat) (u : Value) : Touch (· = g) V ((V.drewN n).setCell ⟨g, 0, none⟩ u) := ((Touch.refl (· = g) V).drewN n).setCell (p := ⟨g, 0, none⟩) (.inl rfl) u
theorem blk_at {g : Nat} {V : World} {i : Nat} (n : Nat) (h : Blk V g 3 #[.int .i64 (i : Int)]) : Blk ((V.drewN n).setCell ⟨g, 0, none⟩ (.int .i64 ((i : Int) + 1))) g 3 #[.int .i64 ((i + 1 : Nat) : Int)] := by
  have := (h.drewN n).set_ 0 (.int .i64 ((i : Int) + 1))
  push_cast
  exact this

set_option maxRecDepth 100000 in
set_option maxHeartbeats 40000000 in
theorem fields_law (w : World) (f g : F) (hf : Wf f) (hg : Wf g) :
    Calls Try.prog 3 #[stV f, stV g] w fun e w' => e = .returned (.bool true) ∧ Below w.heap.size w w' := by
  refine calls_of_wp_marks 9 Try.func3 rfl ?_
  obtain ⟨C, LC⟩ := let_of f
  obtain ⟨D, LD⟩ := let_of g
  unfold stV
  rw [← LC.eq, ← LD.eq]
  simp only [Try.ntmps3, List.size_toArray, List.length_cons, List.length_nil, Nat.reduceAdd, Nat.reduceSub, Array.replicate_succ, Array.replicate_zero, List.push_toArray, List.append_toArray, List.nil_append, List.cons_append]
  obtain ⟨ga, hga⟩ : ∃ t, t = w.heap.size := ⟨_, rfl⟩
  obtain ⟨gb, hgb⟩ : ∃ t, t = ga + 1 := ⟨_, rfl⟩
  obtain ⟨gr, hgr⟩ : ∃ t, t = gb + 1 := ⟨_, rfl⟩
  obtain ⟨W1, hW1⟩ : ∃ W1, W1 = ((w.alloc (.cells C 31)).alloc (.cells D 31)).alloc (.cells #[.bool false] 4) := ⟨_, rfl⟩
  have hA : Blk W1 ga 31 C := by rw [hW1, hga]; exact ((Blk.new w _ _).alloc _).alloc _
  have hB : Blk W1 gb 31 D := by
    rw [hW1]
    refine Blk.alloc ?_ _
    have := Blk.new (w.alloc (.cells C 31)) 31 D
    rw [World.size_alloc, ← hga, ← hgb] at this
    exact this
  have hR : Blk W1 gr 4 #[.bool false] := by
    rw [hW1]
    have := Blk.new ((w.alloc (.cells C 31)).alloc (.cells D 31)) 4 #[.bool false]
    rw [World.size_alloc, World.size_alloc, ← hga, ← hgb, ← hgr] at this
    exact this
  have hbw : Below w.heap.size w W1 := by rw [hW1]; exact (((Below.refl _ w).alloc (Nat.le_refl _) _).alloc (by simp) _).alloc (by simp; omega) _
  have HA := Lib.hid hA
  have HB := Lib.hid hB
  have HR := Lib.hid hR
  have HBW := Lib.hid hbw
  have HGR := Lib.hid (show w.heap.size ≤ gr by omega)
  have HLC := Lib.hid LC
  have HLD := Lib.hid LD
  have hcs := LC.size
  have hds := LD.size
  have hif := LC.info
  have hjf := LD.info
  have pA := Lib.hid (awake36 W1)
  have pF := Lib.hid (fun V => fields_any V f hf)
  have pX := Lib.hid (fun V => numbers_any V f hf)
  have pY := Lib.hid (fun V => numbers_any V g hg)
  unfold stV at pF pX pY
  rw [← LC.eq] at pF pX
  rw [← LD.eq] at pY
  have pU := Lib.hid (show ∀ V, Calls Try.prog 18 #[.agg C, .agg D] V fun e w' => e = .returned (.func (.func 61) #[] #[.pointer (some ⟨V.heap.size, 0, none⟩), .pointer (some ⟨V.heap.size + 1, 0, none⟩)]) ∧ (V.alloc (.cells C 31)).alloc (.cells D 31) = w' from fun V => by
    have := unlike_any V f g
    unfold stV at this
    rw [← LC.eq, ← LD.eq] at this
    exact this)
  have pV := Lib.hid (show ∀ V, Calls Try.prog 18 #[.agg C, .agg C] V fun e w' => e = .returned (.func (.func 61) #[] #[.pointer (some ⟨V.heap.size, 0, none⟩), .pointer (some ⟨V.heap.size + 1, 0, none⟩)]) ∧ (V.alloc (.cells C 31)).alloc (.cells C 31) = w' from fun V => by
    have := unlike_any V f f
    unfold stV at this
    rw [← LC.eq] at this
    exact this)
  clear hA hB hR hbw LC LD
  go_upto_region 1 with fail
  rw [← hW1, ← hga, ← hgb, ← hgr]
  clear hW1 hga hgb hgr
  go_wp2_with fail
  refine pA.out.mono ?_
  rintro e w2 ⟨rfl, b2⟩
  have HB2 := Lib.hid (show Bw W1 w2 from b2)
  have hX2 := HA.out.below HB2.out HA.out.lt
  clear b2 pA
  go_wp2_with (refine wpList_load_blk (by rfl) 31 _ (by rfl) ga (by rfl) _ C _ hX2 Try.underlying31 (by rfl) hif ?_)
  refine (pF.out _).mono ?_
  rintro e w3 ⟨v3, rfl, m3⟩
  obtain ⟨gf, cf, rfl, hf3, of3⟩ := mkf_form m3
  have HF3 := Lib.hid hf3
  have HB3 := Lib.hid (HB2.out.go m3.below)
  clear hX2 m3 hf3 of3 pF
  go_upto_region 4 with fail
  go_cut [6, 7, 8] from 17 to 21 (fun v6 v7 v8 wx => ∃ g6 g7 g8 gn cn gx cx gy cy, v6 = .pointer (some ⟨g6, 0, none⟩) ∧ v7 = .pointer (some ⟨g7, 0, none⟩) ∧ v8 = .pointer (some ⟨g8, 0, none⟩) ∧ Bx3 wx g6 g7 g8 gn cn gx cx gy cy f g ∧ Bw w3 wx)
  case first =>
    refine wp_region_inv_tail 8 [6, 7, 8, 17, 18, 19, 20, 21] (fun s vs V => ∃ v6 v7 v8 v17 v18 v19 v20 v21, vs = [v6, v7, v8, v17, v18, v19, v20, v21] ∧ Hd C D f g w3 s v6 v7 v8 v17 v18 v19 v20 v21 V) (by kernel_rfl) (by kernel_rfl) [undef, undef, undef, undef, undef, undef, undef, undef] rfl ⟨_, _, _, _, _, _, _, _, rfl, Hd.zero _ (Bw.dr (Bw.rf _))⟩ ?_ ?_
    · intro s vs V i o hi hs ho haf hI
      obtain ⟨v6, v7, v8, v17, v18, v19, v20, v21, rfl, hI⟩ := hI
      have hAV := Blk.go HA.out (Bw.go HB3.out hI.bw)
      have hBV := Blk.go HB.out (Bw.go HB3.out hI.bw)
      have hi8 : i = 0 ∨ i = 1 ∨ i = 2 ∨ i = 3 ∨ i = 4 ∨ i = 5 ∨ i = 6 ∨ i = 7 := by omega
      rcases hi8 with rfl | rfl | rfl | rfl | rfl | rfl | rfl | rfl
      · refine wpOp_let rfl (fun K hK => ?_)
        simp only [puts, List.zip_cons_cons, List.zip_nil_right, Act.put, List.setIfInBounds_toArray, List.set_cons_zero, List.set_cons_succ]
        go_simp
        refine (names_any V).mono ?_
        rintro e w' ⟨v, rfl, hg⟩
        obtain ⟨k, c, rfl, hk, hc⟩ := hg.names
        go_wp2_with fail
        exact hK.out _ _ ⟨_, rfl, _, _, _, _, _, _, _, _, rfl, hI.op0 hg.bw hk hc⟩
      · refine wpOp_let rfl (fun K hK => ?_)
        rw [if_pos (by rfl)]
        simp only [puts, List.zip_cons_cons, List.zip_nil_right, Act.put, List.setIfInBounds_toArray, List.set_cons_zero, List.set_cons_succ]
        refine wp_load_row 31 (Operand.tmp 2) rfl ga rfl 31 C (0, 0) _ hAV (by rfl) (by rfl) hif ?_
        exact hK.out _ _ ⟨_, rfl, _, _, _, _, _, _, _, _, rfl, hI.op1⟩
      · cases ho
        obtain rfl := hI.f1 (haf { on := 1, ground := .data } (by simp) (by rfl))
        refine wpOp_let rfl (fun K hK => ?_)
        simp only [puts, List.zip_cons_cons, List.zip_nil_right, Act.put, List.setIfInBounds_toArray, List.set_cons_zero, List.set_cons_succ]
        go_simp
        refine (pX.out V).mono ?_
        rintro e w' ⟨v, rfl, hg⟩
        obtain ⟨k, c, rfl, hk, hc⟩ := hg.nums
        go_wp2_with fail
        exact hK.out _ _ ⟨_, rfl, _, _, _, _, _, _, _, _, rfl, hI.op2 hg.bw hk hc⟩
      · refine wpOp_let rfl (fun K hK => ?_)
        rw [if_pos (by rfl)]
        simp only [puts, List.zip_cons_cons, List.zip_nil_right, Act.put, List.setIfInBounds_toArray, List.set_cons_zero, List.set_cons_succ]
        refine wp_load_row 31 (Operand.tmp 3) rfl gb rfl 31 D (0, 0) _ hBV (by rfl) (by rfl) hjf ?_
        exact hK.out _ _ ⟨_, rfl, _, _, _, _, _, _, _, _, rfl, hI.op3⟩
      · cases ho
        obtain rfl := hI.f3 (haf { on := 3, ground := .data } (by simp) (by rfl))
        refine wpOp_let rfl (fun K hK => ?_)
        simp only [puts, List.zip_cons_cons, List.zip_nil_right, Act.put, List.setIfInBounds_toArray, List.set_cons_zero, List.set_cons_succ]
        go_simp
        refine (pY.out V).mono ?_
        rintro e w' ⟨v, rfl, hg⟩
        obtain ⟨k, c, rfl, hk, hc⟩ := hg.nums
        go_wp2_with fail
        exact hK.out _ _ ⟨_, rfl, _, _, _, _, _, _, _, _, rfl, hI.op4 hg.bw hk hc⟩
      · refine wpOp_let rfl (fun K hK => ?_)
        simp only [puts, List.zip_cons_cons, List.zip_nil_right, Act.put, List.setIfInBounds_toArray, List.set_cons_zero, List.set_cons_succ]
        go_simp
        exact hK.out _ _ ⟨_, rfl, _, _, _, _, _, _, _, _, rfl, hI.op5⟩
      · refine wpOp_let rfl (fun K hK => ?_)
        simp only [puts, List.zip_cons_cons, List.zip_nil_right, Act.put, List.setIfInBounds_toArray, List.set_cons_zero, List.set_cons_succ]
        go_simp
        exact hK.out _ _ ⟨_, rfl, _, _, _, _, _, _, _, _, rfl, hI.op6⟩
      · refine wpOp_let rfl (fun K hK => ?_)
        simp only [puts, List.zip_cons_cons, List.zip_nil_right, Act.put, List.setIfInBounds_toArray, List.set_cons_zero, List.set_cons_succ]
        go_simp
        exact hK.out _ _ ⟨_, rfl, _, _, _, _, _, _, _, _, rfl, hI.op7⟩
    · intro s vs V hs hI
      obtain ⟨v6, v7, v8, v17, v18, v19, v20, v21, rfl, hI⟩ := hI
      obtain ⟨g6, g7, g8, gn, cn, gx, cx, gy, cy, rfl, rfl, rfl, rfl, rfl, rfl, h6, h7, h8, hbV, hend, n67, n68, n78⟩ := hI.all hs
      have HE := Lib.hid hend
      have H6 := Lib.hid h6
      have H7 := Lib.hid h7
      have H8 := Lib.hid h8
      have c6 := h6.cell 0
      have c7 := h7.cell 0
      have c8 := h8.cell 0
      have z6 := h6.frozen 0
      have z7 := h7.frozen 0
      have z8 := h8.frozen 0
      simp at c6 c7 c8
      clear h6 h7 h8 hbV hend
      simp only [puts, List.zip_cons_cons, List.zip_nil_right, Act.put, List.setIfInBounds_toArray, List.set_cons_zero, List.set_cons_succ, List.drop_succ_cons, List.drop_zero]
      go_wp2_with fail
      go_meet
      refine ⟨g6, g7, g8, gn, cn, gx, cx, gy, cy, rfl, rfl, rfl, ?_⟩
      refine HE.out _ (((H6.out.set_ 0 _).far n67 _).far n68 _) (((H7.out.far (Ne.symm n67) _).set_ 0 _).far n78 _) (((H8.out.far (Ne.symm n68) _).far (Ne.symm n78) _).set_ 0 _) ?_
      exact (((Touch.refl _ V).setCell (p := ⟨g6, 0, none⟩) (.inl (.inl rfl)) _).setCell (p := ⟨g7, 0, none⟩) (.inl (.inr (.inl rfl))) _).setCell (p := ⟨g8, 0, none⟩) (.inl (.inr (.inr rfl))) _
  case rest =>
    obtain ⟨g6, g7, g8, gn, cn, gx, cx, gy, cy, rfl, rfl, rfl, hbx, hbc⟩ := hcut
    have HBX := Lib.hid hbx
    have HBC := Lib.hid (HB3.out.go hbc)
    have HFC := Lib.hid (HF3.out.below hbc)
    have c6 := hbx.b6.cell 0
    have c7 := hbx.b7.cell 0
    have c8 := hbx.b8.cell 0
    simp at c6 c7 c8
    clear hbx hbc HF3 HB3 pX pY
    go_wp2_with fail
    go_loopw [9] (fun iv wr => ∃ i : Nat, i ≤ 66 ∧ iv = .int .i64 (i : Int) ∧ Bw wc wr) (fun iv _ => 66 - (intOf iv).toNat)
    case atStart => exact ⟨0, by omega, rfl, Bw.rf _⟩
    case round =>
      obtain ⟨i, hi, rfl, hb⟩ := hrel
      have HBR := Lib.hid hb
      clear hb c6 c7 c8
      by_cases hlt : i < 66
      · have i0 : (0 : Int) ≤ (i : Int) := by omega
        have i1 : (i : Int) < 66 := by omega
        have hb3 := HBX.out.below HBR.out
        have c6 := hb3.b6.cell 0
        have c7 := hb3.b7.cell 0
        simp at c6 c7
        obtain ⟨n0, n1, -⟩ := hb3.tri i hlt
        obtain ⟨a0, a1⟩ := (HFC.out.below HBR.out).cell hlt
        have HLT := Lib.hid hlt
        generalize nmAt i = s at *
        generalize nth (nuC f) i = x at *
        clear hb3 hlt hi
        go_upto_region 10 with fail
        go_quiet (fail)
        clear c6 c7 n0 n1 a0 a1
        go_wp2_with fail
        go_roundw
        case rel => exact ⟨i + 1, HLT.out, by go_num, HBR.out.go (below_drewN (Below.refl _ _) _)⟩
        case measure => have := HLT.out; simp [intOf]; omega
      · obtain rfl : i = 66 := by omega
        rw [show ((66 : Nat) : Int) = 66 from rfl]
        clear hlt hi
        have hbW := HBC.out.go HBR.out
        have hA5 := Blk.go HA.out hbW
        have hB5 := Blk.go HB.out hbW
        have HX3 := Lib.hid (HBX.out.below HBR.out)
        have HBW5 := Lib.hid hbW
        have hnf : ∀ (f : FuncId) (cs : Array Value) (W : World), Sem.run Try.prog (binOp .eql 42 (.func (.func f) #[] cs) .nilFunc) W = .ok (.bool false) W := by
          intro f cs W
          have h : ∀ d : Nat, Sem.run Try.prog (Op.equalIn (d + 1) 42 (.func (.func f) #[] cs) .nilFunc) W = .ok false W := fun d => by
            simp [Op.equalIn, run_underlying Try.underlying42, go_sem]
          have h' := h (Op.maxDepth - 1)
          simp only [binOp, Op.equal]
          rw [Sem.run_bind]
          erw [h']
          rfl
        clear hbW
        go_wp2_with (first
          | (refine wpList_load_blk (by rfl) 31 _ (by rfl) ga (by rfl) _ C _ hA5 Try.underlying31 (by rfl) hif ?_)
          | (refine wpList_load_blk (by rfl) 31 _ (by rfl) gb (by rfl) _ D _ hB5 Try.underlying31 (by rfl) hjf ?_)
          | fail)
        refine (pU.out _).mono ?_
        rintro e w5 ⟨rfl, rfl⟩
        clear hA5 hB5 pU
        obtain ⟨pa, hpa⟩ : ∃ p, p = wr.heap.size := ⟨_, rfl⟩
        obtain ⟨pb, hpb⟩ : ∃ p, p = wr.heap.size + 1 := ⟨_, rfl⟩
        obtain ⟨g11, hg11⟩ : ∃ p, p = pb + 1 := ⟨_, rfl⟩
        obtain ⟨W6, hW6⟩ : ∃ W, W = ((wr.alloc (.cells C 31)).alloc (.cells D 31)).alloc (.cells #[.int .i64 0] 3) := ⟨_, rfl⟩
        go_wp2_with fail
        rw [← hW6, ← hpb, ← hpa, ← hg11]
        have hSa : SB W6 pa 31 f := by rw [hW6, hpa]; exact HLC.out.sb (((Blk.new wr _ _).alloc _).alloc _)
        have hSb : SB W6 pb 31 g := by
          rw [hW6, hpb]
          have := Blk.new (wr.alloc (.cells C 31)) 31 D
          rw [World.size_alloc] at this
          exact HLD.out.sb (this.alloc _)
        have h11 : Blk W6 g11 3 #[.int .i64 0] := by
          rw [hW6, hg11, hpb]
          have := Blk.new ((wr.alloc (.cells C 31)).alloc (.cells D 31)) 3 #[.int .i64 0]
          rw [World.size_alloc, World.size_alloc] at this
          exact this
        have hb6 : Bw wr W6 := by rw [hW6]; exact Bw.al (Bw.al (Bw.one wr _) _) _
        have hz11 : wr.heap.size ≤ g11 := by omega
        have HSA := Lib.hid hSa
        have HSB := Lib.hid hSb
        have H11 := Lib.hid h11
        have HB6 := Lib.hid hb6
        have HZ11 := Lib.hid hz11
        have HWF := Lib.hid hf
        have HWG := Lib.hid hg
        clear hSa hSb h11 hb6 hz11 hW6 hpa hpb hg11 hnf hf hg
        refine (wpIn_wide (n := 9)).1 ?_
        obtain ⟨FN, hFN⟩ : ∃ FN : Nat → ByteArray, FN = fun k => nmAt (dixA f g k) := ⟨_, rfl⟩
        obtain ⟨FA, hFA⟩ : ∃ FA : Nat → Int, FA = fun k => nth (nuC f) (dixA f g k) := ⟨_, rfl⟩
        obtain ⟨FB, hFB⟩ : ∃ FB : Nat → Int, FB = fun k => nth (nuC g) (dixA f g k) := ⟨_, rfl⟩
        have HENC := Lib.hid (show ∀ k, encP f g k = #[.agg #[.string (FN k), .int .i64 (FA k), .int .i64 (FB k)]] from fun k => by rw [hFN, hFA, hFB]; rfl)
        have HFN := Lib.hid (show ∀ k, nmAt (dixA f g k) = FN k from fun k => by rw [hFN])
        have HFA := Lib.hid (show ∀ k, nth (nuC f) (dixA f g k) = FA k from fun k => by rw [hFA])
        have HFB := Lib.hid (show ∀ k, nth (nuC g) (dixA f g k) = FB k from fun k => by rw [hFB])
        have HLT := Lib.hid H11.out.lt
        clear hFN hFA hFB
        refine' range_box (F := Fence.wide) (n := 9) rfl (by omega) (gf := 61) (lb := #[.pointer (some ⟨pa, 0, none⟩), .pointer (some ⟨pb, 0, none⟩)]) rfl trivial (enters_of Try.func61 (by kernel_rfl) rfl)
          (encs := fun k => #[.agg #[.string (FN k), .int .i64 (FA k), .int .i64 (FB k)]]) (Kp := KeepX (fun k => k = g11 ∨ k = W6.heap.size + 1)) (N := dixN f g) (t := 45) (cs := fun k => #[.string (FN k), .int .i64 (FA k), .int .i64 (FB k)]) _
          (fun V J Jx hb hz hJ hJx hY h0 => unlike_in (W6.heap.size + 1) pa pb (W6.heap.size + 2) (fun k => k = g11 ∨ k = W6.heap.size + 1) f g HWF.out HWG.out J Jx (fun k W1 hk hj => by rw [HENC.out k]; exact hY k W1 hk hj) V hz hJ (HSA.out.below hb (SB.lt HSA.out)) (HSB.out.below hb (SB.lt HSB.out)) (fun k hk => by have := HLT.out; rcases hk with h | h <;> omega) h0)
          (fun h h' => KeepX.trans h h') (fun W o => keepX_put _ W _ o (.inr rfl)) (fun A B _ hb => KeepX.of_below hb) (fun _ => rfl)
          (fun k W => Bw wr W ∧ Blk W g11 3 #[.int .i64 (stp f g k : Int)]) (fun _ _ => False) (fun s A C h hb => ⟨Bw.go h.1 hb, Blk.go h.2 hb⟩) (fun _ _ _ h _ => h) (fun k W r o h hl => ⟨Below.trans h.1 (belowB_put (by have := HB6.out.sz; omega) W o), (World.putObj_heap_other (by have := HLT.out; omega)).trans h.2⟩) (fun _ _ _ _ h _ => h) ⟨HB6.out, H11.out⟩ ?assign ?body ?done ?stop
        case assign =>
          intro l' k q' W K hq hK
          have HQ := Lib.hid hq
          clear hq
          gi_wp2
          rw [← HQ.out]
          exact hK
        case stop =>
          intro D k W _ _ hx _
          exact hx.elim
        case body =>
          intro l' k gq W hI hk hblk hgq hzW
          obtain ⟨hW0, hC⟩ := hI
          have hle := stp_le hk
          obtain ⟨hA66, hAne, hAc⟩ := dixA_item hk
          have hg11 := HLT.out
          have HXB := Lib.hid (show ∀ V, Touch (· = g11) W V → Bx3 V g6 g7 g8 gn cn gx cx gy cy f g ∧ Blk V gq 45 #[.string (FN k), .int .i64 (FA k), .int .i64 (FB k)] from fun V t =>
            ⟨HX3.out.below (Bw.touch hW0 t (fun j hj => by have := HZ11.out; omega)), hblk.touch t (by omega)⟩)
          have HEQ := Lib.hid (show ∀ i, stp f g k ≤ i → i < dixA f g k → nth (nuC f) i = nth (nuC g) i from fun i h1 h2 => stp_same (Nat.le_of_lt hk) h1 (fun _ => h2) (by omega))
          have HFIN := Lib.hid (show ∀ V, Touch (· = g11) W V → Blk V g11 3 #[.int .i64 ((dixA f g k + 1 : Nat) : Int)] → KeepsFrom W6.heap.size W V ∧ KeepX (fun k => k = g11 ∨ k = W6.heap.size + 1) W V ∧ Bw wr V ∧ Blk V g11 3 #[.int .i64 (stp f g (k + 1) : Int)] from fun V t hb =>
            ⟨⟨t.size, fun j o hj ho _ => (t.block j (lt_of_heap ho) (by omega)).trans ho⟩, touch_keepX t (fun j hj => .inl hj), Bw.touch hW0 t (fun j hj => by have := HZ11.out; omega), by rw [stp_succ]; exact hb⟩)
          obtain ⟨d, hd⟩ : ∃ d, d = dixA f g k := ⟨_, rfl⟩
          rw [← hd] at HEQ HFIN hA66 hAne hle
          have HNX := Lib.hid (show nmAt d = FN k ∧ nth (nuC f) d = FA k ∧ nth (nuC g) d = FB k from by rw [hd]; exact ⟨HFN.out k, HFA.out k, HFB.out k⟩)
          have HNE := Lib.hid hAne
          have HD := Lib.hid hA66
          clear hW0 hblk hgq hzW hA66 hAne hAc hk hd HFA HFB HFN hg11
          gi_wp2
          gi_loopw [] (fun V => ∃ i, stp f g k ≤ i ∧ i ≤ d ∧ Blk V g11 3 #[.int .i64 (i : Int)] ∧ Touch (· = g11) W V) (fun V => 66 - atN g11 V)
          case atStart => exact ⟨stp f g k, Nat.le_refl _, hle, hC, Touch.refl _ _⟩
          case round =>
            clear hC hle
            obtain ⟨i, h1, h2, hb, ht⟩ := hrel
            have hd66 := HD.out
            obtain ⟨hx, hq⟩ := HXB.out _ ht
            have hm := atN_eq hb
            have c11 := hb.cell 0
            have c6 := hx.b6.cell 0
            have c7 := hx.b7.cell 0
            have c8 := hx.b8.cell 0
            simp at c6 c7 c8 c11
            obtain ⟨n0, n1, n2⟩ := hx.tri i (by omega)
            have i0 : (0 : Int) ≤ (i : Int) := by omega
            have i1 : (i : Int) < 66 := by omega
            have z11 := hb.frozen 0
            have HB := Lib.hid hb
            have HT := Lib.hid ht
            have HM := Lib.hid hm
            have H1 := Lib.hid h1
            by_cases hlt : i < d
            · have HL := Lib.hid hlt
              have e := HEQ.out i h1 hlt
              rw [← e] at n2
              generalize nth (nuC f) i = x at n1 n2
              generalize nmAt i = nm at n0
              clear e hx hq hb ht hlt h1 h2 hd66 hm
              gi_wp2
              refine wpIn_region_quiet_round l' (by kernel_rfl) (by kernel_rfl) (by kernel_rfl) ?_
              repeat (gi_big_quiet_step (fail))
              refine wpQuietIn_nil ?_
              intro _ hw'
              obtain ⟨nq, hw''⟩ := hw'
              subst hw''
              gi_wp2
              exact ⟨⟨i + 1, by have := H1.out; omega, HL.out, blk_at nq HB.out, HT.out.trans (touch_at g11 wr nq _) (fun j hj => .inl hj)⟩, by have := HL.out; have := HD.out; rw [atN_eq (blk_at nq HB.out), HM.out]; omega⟩
            · obtain rfl : i = d := by omega
              have i3 : decide ((66 : Int) ≤ (i : Int)) = false := decide_eq_false (by omega)
              obtain ⟨e0, e1, e2⟩ := HNX.out
              have hne := HNE.out
              rw [e1, e2] at hne
              rw [e0] at n0
              rw [e1] at n1
              rw [e2] at n2
              have q0 := hq.cell 0
              have q1 := hq.cell 1
              have q2 := hq.cell 2
              simp at q0 q1 q2
              clear e0 e1 e2 HNX HXB HENC HNE HEQ
              generalize FN k = nm at *
              generalize FA k = x at *
              generalize FB k = y at *
              have hxy : (x == y) = false := by simpa using hne
              clear hne hx hq hb ht hlt h1 h2 hd66 hm
              gi_wp2
              refine wpIn_region_quiet_round l' (by kernel_rfl) (by kernel_rfl) (by kernel_rfl) ?_
              repeat (gi_big_quiet_step (fail))
              refine wpQuietIn_nil ?_
              intro _ hw'
              obtain ⟨nq, hw''⟩ := hw'
              subst hw''
              gi_wp2
              refine wpIn_region_quiet_round l' (by kernel_rfl) (by kernel_rfl) (by kernel_rfl) ?_
              repeat (gi_big_quiet_step (fail))
              refine wpQuietIn_nil ?_
              intro _ hw'
              obtain ⟨mq, hw''⟩ := hw'
              subst hw''
              gi_wp2
              exact HFIN.out _ (HT.out.trans (touch_at g11 wr (nq + mq) _) (fun j hj => .inl hj)) (blk_at (nq + mq) HB.out)
        case done =>
          intro D W hD hI hdef
          obtain ⟨hW0, hC⟩ := hI
          obtain ⟨hc1, hle⟩ := stp_count (f := f) (g := g) (k := dixN f g) (Nat.le_refl _)
          have hg11 := HLT.out
          have HXB := Lib.hid (show ∀ V, Touch (· = g11) W V → Bx3 V g6 g7 g8 gn cn gx cx gy cy f g from fun V t => HX3.out.below (Bw.touch hW0 t (fun j hj => by have := HZ11.out; omega)))
          have HEQ := Lib.hid (show ∀ i, stp f g (dixN f g) ≤ i → i < 66 → nth (nuC f) i = nth (nuC g) i from fun i h1 h2 => stp_same (Nat.le_refl _) h1 (fun h => absurd h (by omega)) h2)
          have HBV := Lib.hid (show ∀ V, Touch (· = g11) W V → Bw W1 V from fun V t => Bw.go HBW5.out (Bw.touch hW0 t (fun j hj => by have := HZ11.out; omega)))
          have HDV := Lib.hid (show ∀ V, Touch (· = g11) W V → V.heap[D]? = some (Obj.deferred (some [])) from fun V t => (t.block D (lt_of_heap hdef) (by omega)).trans hdef)
          have HGG := Lib.hid (show W1.heap.size ≤ g11 from by have := HBW5.out.sz; have := HZ11.out; omega)
          have HDZ := Lib.hid (show W1.heap.size ≤ D from by have := HBW5.out.sz; have := HB6.out.sz; omega)
          obtain ⟨n, hn⟩ : ∃ n, n = stp f g (dixN f g) := ⟨_, rfl⟩
          rw [← hn] at HEQ hC hle
          clear hW0 hdef hc1 hg11 hD hn
          go_wp2_with fail
          go_loopw [] (fun V => ∃ i, n ≤ i ∧ i ≤ 66 ∧ Blk V g11 3 #[.int .i64 (i : Int)] ∧ Touch (· = g11) W V) (fun V => 66 - atN g11 V)
          case atStart => exact ⟨n, Nat.le_refl _, hle, hC, Touch.refl _ _⟩
          case round =>
            clear hC hle
            obtain ⟨i, h1, h2, hb, ht⟩ := hrel
            have hx := HXB.out _ ht
            have hm := atN_eq hb
            have c11 := hb.cell 0
            have c6 := hx.b6.cell 0
            have c7 := hx.b7.cell 0
            have c8 := hx.b8.cell 0
            simp at c6 c7 c8 c11
            have z11 := hb.frozen 0
            have HB' := Lib.hid hb
            have HT := Lib.hid ht
            have HM := Lib.hid hm
            have H1 := Lib.hid h1
            by_cases hlt : i < 66
            · obtain ⟨n0, n1, n2⟩ := hx.tri i hlt
              have i0 : (0 : Int) ≤ (i : Int) := by omega
              have i1 : (i : Int) < 66 := by omega
              have HL := Lib.hid hlt
              have e := HEQ.out i h1 hlt
              rw [← e] at n2
              generalize nth (nuC f) i = x at n1 n2
              clear e n0 hx hb ht hlt h1 h2 hm
              go_upto_region 23 with fail
              go_quiet (fail)
              go_wp2_with fail
              exact ⟨⟨i + 1, by have := H1.out; omega, HL.out, blk_at nq HB'.out, HT.out.trans (touch_at g11 wr nq _) (fun j hj => .inl hj)⟩, by have := HL.out; rw [atN_eq (blk_at nq HB'.out), HM.out]; omega⟩
            · obtain rfl : i = 66 := by omega
              rw [show ((66 : Nat) : Int) = 66 from rfl] at c11
              clear hx hb ht hlt h1 h2 hm
              go_upto_region 23 with fail
              go_quiet (fail)
              go_upto_region 25 with fail
              obtain ⟨W8, hW8⟩ : ∃ W8, W8 = wr.drewN nq := ⟨_, rfl⟩
              have hT8 : Touch (· = g11) W W8 := by rw [hW8]; exact HT.out.trans ((Touch.refl (· = g11) wr).drewN nq) (fun j hj => .inl hj)
              have b8 := HBV.out _ hT8
              have A8 := Blk.go HA.out b8
              have R8 := Blk.go HR.out b8
              have D8 := HDV.out _ hT8
              have k11 : W8.cell? ⟨g11, 0, none⟩ = some (.int .i64 66) := by rw [hW8]; exact c11
              have k6 : W8.cell? ⟨g6, 0, none⟩ = some (.slice (some ⟨gn, 0, none⟩) 66 cn) := by rw [hW8]; exact c6
              rw [← hW8]
              obtain ⟨W9, hW9⟩ : ∃ W9, W9 = (W8.alloc (.cells C 31)).alloc (.cells C 31) := ⟨_, rfl⟩
              have b89 : Bw W8 W9 := by rw [hW9]; exact Bw.al (Bw.one W8 _) _
              have b9 : Bw W1 W9 := Bw.go b8 b89
              have R9 := Blk.go R8 b89
              have D9 : W9.heap[D]? = some (Obj.deferred (some [])) := (b89.block D (lt_of_heap D8)).trans D8
              have r9 := R9.cell 0
              have z9 := R9.frozen 0
              simp at r9
              have B9 := Lib.hid b9
              have HR9 := Lib.hid R9
              have HD9 := Lib.hid D9
              have hne : ∀ (f : FuncId) (cs : Array Value) (W : World), Sem.run Try.prog (binOp .neq 42 (.func (.func f) #[] cs) .nilFunc) W = .ok (.bool true) W := by
                intro f cs W
                have h : ∀ d : Nat, Sem.run Try.prog (Op.equalIn (d + 1) 42 (.func (.func f) #[] cs) .nilFunc) W = .ok false W := fun d => by
                  simp [Op.equalIn, run_underlying Try.underlying42, go_sem]
                have h' := h (Op.maxDepth - 1)
                simp only [binOp, Op.equal]
                rw [Sem.run_bind]
                erw [h']
                rfl
              clear c11 c6 c7 c8 z11 hT8 b8 R8 D8 hW8 b89 b9 R9 D9
              go_wp2_with (first
                | (refine wpList_load_g (by rfl) 31 _ (by rfl) ga (by rfl) _ C _ A8 Try.underlying31 (by rfl) hif ?_)
                | fail)
              refine (pV.out _).mono ?_
              rintro e w9 ⟨rfl, rfl⟩
              rw [← hW9]
              clear hW9
              go_wp2_with fail
              have hDg : D ≠ gr := by
                rintro rfl
                have h1 := HR9.out
                have h2 := HD9.out
                unfold Blk at h1
                rw [h1] at h2
                cases h2
              have R10 : Blk (W9.setCell ⟨gr, 0, none⟩ (.bool true)) gr 4 #[.bool true] := HR9.out.set_ 0 (.bool true)
              have D10 := (Below.heap_setCell W9 ⟨gr, 0, none⟩ (.bool true) D hDg).trans HD9.out
              have B10 : Below w.heap.size w (W9.setCell ⟨gr, 0, none⟩ (.bool true)) := Bw.touch (Bw.go HBW.out B9.out) ((Touch.refl (· = gr) W9).setCell (p := ⟨gr, 0, none⟩) (.inl rfl) _) (fun j hj => by rw [hj]; exact HGR.out)
              refine ⟨by simp, .inl ⟨_, _, rfl, run_takeDeferred D10, ?_⟩⟩
              exact ⟨.bool true, rs_cell _ _ gr true ((World.putObj_heap_other (Ne.symm hDg)).trans R10) (by rfl), rfl, Below.trans B10 (belowB_put (l := D) (by have := HDZ.out; have := HBW.out.size; omega) _ _)⟩
end Go.Proofs.Ytlhoffhagfhbcaa.Dif
