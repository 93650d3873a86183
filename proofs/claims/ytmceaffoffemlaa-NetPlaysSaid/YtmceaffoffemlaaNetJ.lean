/-
  net: the plain net (lists of bytes and ages); the net in memory holds it; what Send, Move and Drop leave. No condition.
-/
import Derived.Test.YtmceaffoffemlaaNetE
import Derived.Test.YtmceaffoffemlaaNetF
namespace Go.Proofs.Ytmceaffoffemlaa.Netw
open Go.RowKit
set_option linter.all false

abbrev Ml := List Int × Int
structure MN where
  L : Nat → List Ml
  full : Int
  long : Int
  moved : Int
def m0 : MN := ⟨fun _ => [], 0, 0, 0⟩
/-- Is there such a way? -/
def isWay (d b : Int) : Prop := 0 ≤ d ∧ d < 2 ∧ 0 ≤ b ∧ b < 2
instance (d b : Int) : Decidable (isWay d b) := by unfold isWay; infer_instance
def wayNo (d b : Int) : Nat := (2 * d + b).toNat
theorem wayNo_lt {d b : Int} (h : isWay d b) : wayNo d b < 4 := by unfold isWay at h; unfold wayNo; omega
theorem isWay_nat {d b : Int} (h : isWay d b) : ∃ x y : Nat, d = x ∧ b = y ∧ x < 2 ∧ y < 2 ∧ wayNo d b = 2 * x + y := by
  unfold isWay at h; unfold wayNo
  exact ⟨d.toNat, b.toNat, by omega, by omega, by omega, by omega, by omega⟩
theorem not_way {d b : Int} (h : ¬ isWay d b) : d < 0 ∨ (¬ d < 0 ∧ 2 ≤ d) ∨ (¬ d < 0 ∧ ¬ 2 ≤ d ∧ b < 0) ∨ (¬ d < 0 ∧ ¬ 2 ≤ d ∧ ¬ b < 0 ∧ 2 ≤ b) := by
  unfold isWay at h; omega
def MN.put (m : MN) (k : Nat) (l : List Ml) : MN := { m with L := upd m.L k l }
def MN.send (m : MN) (d b : Int) (bs : List Int) : MN × Int :=
  if isWay d b then
    if 1400 < bs.length then ({ m with long := m.long + 1 }, 2)
    else if 128 ≤ (m.L (wayNo d b)).length then ({ m with full := m.full + 1 }, 2)
    else (m.put (wayNo d b) (m.L (wayNo d b) ++ [(bs, 0)]), 0)
  else (m, 62)
/-- The place that is meant, counted round. -/
def place (i : Int) (l : List Ml) : Nat := (i % (l.length : Int)).toNat
theorem place_lt (i : Int) {l : List Ml} (h : l ≠ []) : place i l < l.length ∧ i % (l.length : Int) = (place i l : Int) := by
  have hl : 0 < l.length := List.length_pos_iff.2 h
  have e1 := Int.emod_nonneg i (show (l.length : Int) ≠ 0 by omega)
  have e2 := Int.emod_lt_of_pos i (show (0 : Int) < (l.length : Int) by omega)
  unfold place; omega
def MN.move (m : MN) (d b i : Int) : MN × List Int × Int :=
  if isWay d b then
    match (m.L (wayNo d b))[place i (m.L (wayNo d b))]? with
    | none => (m, [], 91)
    | some x => ({ m.put (wayNo d b) ((m.L (wayNo d b)).eraseIdx (place i (m.L (wayNo d b)))) with moved := m.moved + 1 }, x.1, 0)
  else (m, [], 62)
def MN.drop (m : MN) (d b i : Int) : MN × Int :=
  if isWay d b then
    match (m.L (wayNo d b))[place i (m.L (wayNo d b))]? with
    | none => (m, 91)
    | some _ => (m.put (wayNo d b) ((m.L (wayNo d b)).eraseIdx (place i (m.L (wayNo d b)))), 0)
  else (m, 62)
def MN.double (m : MN) (d b i : Int) : MN × Int :=
  if isWay d b then
    match (m.L (wayNo d b))[place i (m.L (wayNo d b))]? with
    | none => (m, 91)
    | some x => m.send d b x.1
  else (m, 62)
def xorAt (bs : List Int) (at_ bits_ : Int) : List Int := bs.set (at_ % (bs.length : Int)).toNat (bits .xor .u8 (nth bs (at_ % (bs.length : Int)).toNat) bits_)
def MN.spoil (m : MN) (d b at_ bits_ : Int) : MN × Int :=
  if isWay d b then
    match (m.L (wayNo d b))[place (-1) (m.L (wayNo d b))]? with
    | none => (m, 91)
    | some x => if x.1 = [] then (m, 0) else (m.put (wayNo d b) ((m.L (wayNo d b)).set (place (-1) (m.L (wayNo d b))) (xorAt x.1 at_ bits_, x.2)), 0)
  else (m, 62)
def older (l : List Ml) : List Ml := l.map fun x => (x.1, x.2 + 1)
def MN.tick (m : MN) : MN := { m with L := fun k => older (m.L k) }

/-- Numbers that may be. -/
structure MOk (m : MN) (c : Int) : Prop where
  len : ∀ k, k < 4 → (m.L k).length ≤ 128
  sz : ∀ k, k < 4 → ∀ x ∈ m.L k, x.1.length ≤ 1400 ∧ 0 ≤ x.2 ∧ x.2 ≤ c
  full : 0 ≤ m.full ∧ m.full ≤ c
  long : 0 ≤ m.long ∧ m.long ≤ c
  moved : 0 ≤ m.moved ∧ m.moved ≤ c
theorem MOk.mono {m : MN} {c c' : Int} (h : MOk m c) (hc : c ≤ c') : MOk m c' :=
  ⟨h.len, fun k hk x hx => ⟨(h.sz k hk x hx).1, (h.sz k hk x hx).2.1, by have := (h.sz k hk x hx).2.2; omega⟩, ⟨h.full.1, by have := h.full; omega⟩, ⟨h.long.1, by have := h.long; omega⟩, ⟨h.moved.1, by have := h.moved; omega⟩⟩
theorem m0_ok : MOk m0 0 := ⟨fun _ _ => by simp [m0], fun k _ x hx => by simp [m0] at hx, by simp [m0], by simp [m0], by simp [m0]⟩
theorem upd_same {α : Type} (f : Nat → α) (k : Nat) (x : α) : upd f k x k = x := by simp [upd]
theorem upd_ne {α : Type} (f : Nat → α) {k j : Nat} (x : α) (h : j ≠ k) : upd f k x j = f j := by simp [upd, h]
theorem MOk.put {m : MN} {c : Int} (h : MOk m c) {k : Nat} {l : List Ml} (h1 : l.length ≤ 128) (h2 : ∀ x ∈ l, x.1.length ≤ 1400 ∧ 0 ≤ x.2 ∧ x.2 ≤ c) : MOk (m.put k l) c :=
  ⟨fun j hj => by
    by_cases e : j = k
    · subst e; show (upd m.L j l j).length ≤ 128; rw [upd_same]; exact h1
    · show (upd m.L k l j).length ≤ 128; rw [upd_ne _ _ e]; exact h.len j hj,
   fun j hj x hx => by
    by_cases e : j = k
    · subst e; have hx' : x ∈ upd m.L j l j := hx; rw [upd_same] at hx'; exact h2 x hx'
    · have hx' : x ∈ upd m.L k l j := hx; rw [upd_ne _ _ e] at hx'; exact h.sz j hj x hx', h.full, h.long, h.moved⟩
theorem MOk.send {m : MN} {c : Int} (h : MOk m c) (d b : Int) (bs : List Int) : MOk (m.send d b bs).1 (c + 1) := by
  unfold MN.send
  have h' := h.mono (show c ≤ c + 1 by omega)
  have hc : 0 ≤ c := by have := h.full; omega
  by_cases hw : isWay d b
  · rw [if_pos hw]
    by_cases h1 : 1400 < bs.length
    · rw [if_pos h1]; exact ⟨h'.len, h'.sz, h'.full, by have := h.long; exact ⟨by show 0 ≤ m.long + 1; omega, by show m.long + 1 ≤ c + 1; omega⟩, h'.moved⟩
    · rw [if_neg h1]
      by_cases h2 : 128 ≤ (m.L (wayNo d b)).length
      · rw [if_pos h2]; exact ⟨h'.len, h'.sz, by have := h.full; exact ⟨by show 0 ≤ m.full + 1; omega, by show m.full + 1 ≤ c + 1; omega⟩, h'.long, h'.moved⟩
      · rw [if_neg h2]
        refine h'.put (by rw [List.length_append, List.length_singleton]; omega) fun x hx => ?_
        rcases List.mem_append.1 hx with hx | hx
        · exact h'.sz _ (wayNo_lt hw) x hx
        · rw [List.mem_singleton] at hx; subst hx; exact ⟨by show bs.length ≤ 1400; omega, by show (0 : Int) ≤ 0; omega, by show (0 : Int) ≤ c + 1; omega⟩
  · rw [if_neg hw]; exact h'
theorem MOk.erase {m : MN} {c : Int} (h : MOk m c) {k : Nat} (hk : k < 4) (i : Nat) : MOk (m.put k ((m.L k).eraseIdx i)) c :=
  h.put (by have := h.len k hk; rw [List.length_eraseIdx]; split <;> omega) fun x hx => h.sz k hk x ((List.eraseIdx_sublist _ _).subset hx)
theorem MOk.move {m : MN} {c : Int} (h : MOk m c) (d b i : Int) : MOk (m.move d b i).1 (c + 1) := by
  unfold MN.move
  have h' := h.mono (show c ≤ c + 1 by omega)
  by_cases hw : isWay d b
  · rw [if_pos hw]
    cases hx : (m.L (wayNo d b))[place i (m.L (wayNo d b))]? with
    | none => exact h'
    | some x =>
      have e := h'.erase (wayNo_lt hw) (place i (m.L (wayNo d b)))
      exact ⟨e.len, e.sz, e.full, e.long, by have := h.moved; exact ⟨by show 0 ≤ m.moved + 1; omega, by show m.moved + 1 ≤ c + 1; omega⟩⟩
  · rw [if_neg hw]; exact h'
theorem MOk.drop {m : MN} {c : Int} (h : MOk m c) (d b i : Int) : MOk (m.drop d b i).1 (c + 1) := by
  unfold MN.drop
  have h' := h.mono (show c ≤ c + 1 by omega)
  by_cases hw : isWay d b
  · rw [if_pos hw]
    cases hx : (m.L (wayNo d b))[place i (m.L (wayNo d b))]? with
    | none => exact h'
    | some x => exact h'.erase (wayNo_lt hw) _
  · rw [if_neg hw]; exact h'
theorem MOk.double {m : MN} {c : Int} (h : MOk m c) (d b i : Int) : MOk (m.double d b i).1 (c + 1) := by
  unfold MN.double
  by_cases hw : isWay d b
  · rw [if_pos hw]
    cases hx : (m.L (wayNo d b))[place i (m.L (wayNo d b))]? with
    | none => exact h.mono (by omega)
    | some x => exact h.send d b x.1
  · rw [if_neg hw]; exact h.mono (by omega)
theorem MOk.spoil {m : MN} {c : Int} (h : MOk m c) (d b i y : Int) : MOk (m.spoil d b i y).1 (c + 1) := by
  unfold MN.spoil
  have h' := h.mono (show c ≤ c + 1 by omega)
  by_cases hw : isWay d b
  · rw [if_pos hw]
    cases hx : (m.L (wayNo d b))[place (-1) (m.L (wayNo d b))]? with
    | none => exact h'
    | some x =>
      dsimp only
      by_cases he : x.1 = []
      · rw [if_pos he]; exact h'
      · rw [if_neg he]
        refine h'.put (by rw [List.length_set]; exact h.len _ (wayNo_lt hw)) fun z hz => ?_
        have hxm := h'.sz _ (wayNo_lt hw) x (List.mem_of_getElem? hx)
        rcases List.mem_or_eq_of_mem_set hz with hz | hz
        · exact h'.sz _ (wayNo_lt hw) z hz
        · subst hz; exact ⟨by show (xorAt x.1 i y).length ≤ 1400; unfold xorAt; rw [List.length_set]; exact hxm.1, hxm.2⟩
  · rw [if_neg hw]; exact h'
theorem MOk.tick {m : MN} {c : Int} (h : MOk m c) : MOk m.tick (c + 1) := by
  have h' := h.mono (show c ≤ c + 1 by omega)
  refine ⟨fun k hk => by show (older (m.L k)).length ≤ 128; unfold older; rw [List.length_map]; exact h.len k hk, fun k hk x hx => ?_, h'.full, h'.long, h'.moved⟩
  obtain ⟨z, hz, rfl⟩ := List.mem_map.1 hx
  have := h.sz k hk z hz
  exact ⟨this.1, by show 0 ≤ z.2 + 1; omega, by show z.2 + 1 ≤ c + 1; omega⟩

/-! ### The program's net -/
def Own (s : NS) (n : Nat) (g : Nat) : Prop := g = n ∨ (∃ k, k < 4 ∧ (s.v k).ownBlock = some g) ∨ (∃ (k j : Nat) (e : E), k < 4 ∧ (s.es k)[j]? = some e ∧ e.1.ownBlock = some g)
structure PN (W : World) (B n : Nat) (s : NS) (m : MN) : Prop where
  net : NAt W n s
  full : s.full = m.full
  long : s.long = m.long
  moved : s.moved = m.moved
  len : ∀ k, k < 4 → (s.es k).length = (m.L k).length
  dat : ∀ k, k < 4 → ∀ (j : Nat) (e : E) (x : Ml), (s.es k)[j]? = some e → (m.L k)[j]? = some x → e.2 = x.2 ∧ On W 5 1 e.1 x.1.length (x.1.map (.int .u8))
  dne : ∀ (k j k' j' : Nat) (e e' : E) (g : Nat), k < 4 → k' < 4 → (k ≠ k' ∨ j ≠ j') → (s.es k)[j]? = some e → (s.es k')[j']? = some e' → e.1.ownBlock = some g → e'.1.ownBlock ≠ some g
  low : ∀ g, Own s n g → B ≤ g
def Went (W : World) (B n : Nat) (s : NS) (m' : MN) (W' : World) : Prop := ∃ s', PN W' B n s' m' ∧ Touch (Own s n) W W' ∧ ∀ g, Own s' n g → Own s n g ∨ W.heap.size ≤ g
theorem on_ne' {w : World} {e e' : TypeId} {size size' n n' : Nat} {v v' : Value} {xs xs' : List Value} (h : On w e size v n xs) (h' : On w e' size' v' n' xs') (hne : e ≠ e') : ∀ g, v.ownBlock = some g → v'.ownBlock ≠ some g := by
  intro g hg
  rcases h.2 with ⟨rfl, _⟩ | ⟨g1, cap, cur, rfl, hh, _⟩
  · simp [Value.ownBlock] at hg
  · have e1 : g1 = g := by simpa [Value.ownBlock] using hg
    subst e1
    exact h'.blk_ne (t := e) hh (fun e => hne e.symm)
section
variable {W W' : World} {B n : Nat} {s s' : NS} {m m' : MN}
theorem PN.get (h : PN W B n s m) {k j : Nat} {e : E} (hk : k < 4) (he : (s.es k)[j]? = some e) : ∃ x, (m.L k)[j]? = some x ∧ e.2 = x.2 ∧ On W 5 1 e.1 x.1.length (x.1.map (.int .u8)) := by
  have hl := (List.getElem?_eq_some_iff.1 he).1
  rw [h.len k hk] at hl
  exact ⟨_, List.getElem?_eq_getElem hl, h.dat k hk j e _ he (List.getElem?_eq_getElem hl)⟩
theorem PN.got (h : PN W B n s m) {k j : Nat} {x : Ml} (hk : k < 4) (hx : (m.L k)[j]? = some x) : ∃ e, (s.es k)[j]? = some e ∧ e.2 = x.2 ∧ On W 5 1 e.1 x.1.length (x.1.map (.int .u8)) := by
  have hl := (List.getElem?_eq_some_iff.1 hx).1
  rw [← h.len k hk] at hl
  exact ⟨_, List.getElem?_eq_getElem hl, h.dat k hk j _ x (List.getElem?_eq_getElem hl) hx⟩
theorem PN.own_lt (h : PN W B n s m) : ∀ g, Own s n g → g < W.heap.size := by
  rintro g (rfl | ⟨k, hk, hg⟩ | ⟨k, j, e, hk, he, hg⟩)
  · exact h.net.box.lt
  · exact (h.net.way k hk).lt g hg
  · obtain ⟨x, _, _, ho⟩ := h.get hk he
    exact ho.lt g hg
theorem PN.one (h : PN W B n s m) {k : Nat} (hk : k < 4) : ∀ e ∈ s.es k, e.1.oneCell' = true := by
  intro e he
  obtain ⟨j, hj⟩ := List.mem_iff_getElem?.1 he
  obtain ⟨x, _, _, ho⟩ := h.get hk hj
  obtain ⟨a, c, hv, _⟩ := ho.slice
  rw [hv]; rfl
/-- What touches the box and the ways alone leaves the data. -/
theorem PN.data (h : PN W B n s m) (hT : Touch (fun g => g = n ∨ ∃ k, k < 4 ∧ (s.v k).ownBlock = some g) W W') {k j : Nat} {e : E} {x : Ml} (hk : k < 4) (he : (s.es k)[j]? = some e) (hx : (m.L k)[j]? = some x) :
    e.2 = x.2 ∧ On W' 5 1 e.1 x.1.length (x.1.map (.int .u8)) := by
  obtain ⟨h1, ho⟩ := h.dat k hk j e x he hx
  refine ⟨h1, ho.touch hT ?_⟩
  rintro g hg (rfl | ⟨k', hk', hg'⟩)
  · exact ho.blk_ne h.net.box (by decide) hg
  · exact on_ne' ho (h.net.way k' hk') (by decide) g hg hg'
theorem PN.below (h : PN W B n s m) (hb : Below W.heap.size W W') : PN W' B n s m :=
  ⟨h.net.below hb, h.full, h.long, h.moved, h.len, fun k hk j e x he hx => ⟨(h.dat k hk j e x he hx).1, (h.dat k hk j e x he hx).2.below hb (fun g hg => (h.dat k hk j e x he hx).2.lt g hg)⟩, h.dne, h.low⟩
theorem Went.self (h : PN W B n s m) (hb : Below W.heap.size W W') : Went W B n s m W' := ⟨s, h.below hb, Touch.of_below hb, fun g hg => .inl hg⟩
theorem Went.trans {W2 : World} {m2 : MN} (h : Went W B n s m' W') (h2 : ∀ s', PN W' B n s' m' → (∀ g, Own s' n g → Own s n g ∨ W.heap.size ≤ g) → Went W' B n s' m2 W2) : Went W B n s m2 W2 := by
  obtain ⟨s1, hP, hT, hO⟩ := h
  obtain ⟨s2, hP2, hT2, hO2⟩ := h2 s1 hP hO
  exact ⟨s2, hP2, hT.trans hT2 hO, fun g hg => (hO2 g hg).elim (hO g) (fun e => .inr (Nat.le_trans hT.size e))⟩
/-- A count is put anew. -/
theorem Went.count (h : PN W B n s m) (i : Nat) (x : Int) (s' : NS) (m' : MN) (hi : (ncs s).setIfInBounds i (.int .i64 x) = ncs s') (h1 : s'.v = s.v) (h2 : s'.es = s.es) (h3 : m'.L = m.L)
    (e1 : s'.full = m'.full) (e2 : s'.long = m'.long) (e3 : s'.moved = m'.moved) : Went W B n s m' (W.setCell ⟨n, i, none⟩ (.int .i64 x)) := by
  have hT : ∀ S : Nat → Prop, S n → Touch S W (W.setCell ⟨n, i, none⟩ (.int .i64 x)) := fun S hS => (Touch.refl S W).setCell (.inl hS) _
  have hO : ∀ g, Own s' n g → Own s n g := fun g hg => by unfold Own at hg ⊢; rw [h1, h2] at hg; exact hg
  refine ⟨s', ⟨h.net.count s' _ hi h1 h2, e1, e2, e3, fun k hk => by rw [h2, h3]; exact h.len k hk, fun k hk j e x he hx => ?_, fun k j k' j' e e' g a b c he he' => ?_, fun g hg => h.low g (hO g hg)⟩, hT _ (.inl rfl), fun g hg => .inl (hO g hg)⟩
  · rw [h2] at he; rw [h3] at hx
    exact h.data (hT _ (.inl rfl)) hk he hx
  · rw [h2] at he he'
    exact h.dne k j k' j' e e' g a b c he he'
theorem Went.sent (h : PN W B n s m) {k : Nat} (hk : k < 4) (bs : List Int) (hB : B ≤ W.heap.size) (hS : Sent W n s k bs.length (bs.map (.int .u8)) W') : Went W B n s (m.put k (m.L k ++ [(bs, 0)])) W' := by
  obtain ⟨dv, v3, hN, hD, hdv, hT, hv3⟩ := hS
  have hT' : Touch (fun g => g = n ∨ ∃ k, k < 4 ∧ (s.v k).ownBlock = some g) W W' := hT.mono fun g hg => .inl (hg.imp id fun e => ⟨k, hk, e⟩)
  have ent : ∀ j i e, j < 4 → (upd s.es k (s.es k ++ [(dv, 0)]) j)[i]? = some e → ((s.es j)[i]? = some e) ∨ (j = k ∧ i = (s.es k).length ∧ e = (dv, 0)) := by
    intro j i e hj he
    by_cases c : j = k
    · subst c
      rw [upd_same] at he
      by_cases c2 : i < (s.es j).length
      · rw [List.getElem?_append_left c2] at he; exact .inl he
      · rw [List.getElem?_append_right (by omega)] at he
        obtain ⟨c3, c4⟩ := List.getElem?_eq_some_iff.1 he
        have c5 : i - (s.es j).length = 0 := by simp at c3; omega
        simp [c5] at c4
        exact .inr ⟨rfl, by omega, c4.symm⟩
    · rw [upd_ne _ _ c] at he; exact .inl he
  have hO : ∀ g, Own { s with v := upd s.v k v3, es := upd s.es k (s.es k ++ [(dv, 0)]) } n g → Own s n g ∨ W.heap.size ≤ g := by
    rintro g (rfl | ⟨j, hj, hg⟩ | ⟨j, i, e, hj, he, hg⟩)
    · exact .inl (.inl rfl)
    · have hg' : (upd s.v k v3 j).ownBlock = some g := hg
      by_cases c : j = k
      · subst c
        rw [upd_same] at hg'
        exact (hv3 g hg').imp (fun e => .inr (.inl ⟨j, hk, e⟩)) id
      · rw [upd_ne _ _ c] at hg'; exact .inl (.inr (.inl ⟨j, hj, hg'⟩))
    · rcases ent j i e hj he with q | ⟨_, _, rfl⟩
      · exact .inl (.inr (.inr ⟨j, i, e, hj, q, hg⟩))
      · exact .inr (hdv g hg)
  refine ⟨_, ⟨hN, h.full, h.long, h.moved, fun j hj => ?_, fun j hj i e x he hx => ?_, fun j i j' i' e e' g hj hj' hne he he' hg => ?_, fun g hg => (hO g hg).elim (h.low g) (fun e => Nat.le_trans hB e)⟩, hT.mono (fun g hg => .inl (hg.elim .inl fun e => .inr (.inl ⟨k, hk, e⟩))), hO⟩
  · show (upd s.es k _ j).length = (upd m.L k _ j).length
    by_cases c : j = k
    · subst c; rw [upd_same, upd_same, List.length_append, List.length_append, h.len j hj]; rfl
    · rw [upd_ne _ _ c, upd_ne _ _ c]; exact h.len j hj
  · have hx' : (upd m.L k (m.L k ++ [(bs, 0)]) j)[i]? = some x := hx
    by_cases c : j = k
    · subst c
      rw [upd_same] at hx'
      rcases ent j i e hj he with q | ⟨_, q, rfl⟩
      · rw [List.getElem?_append_left (by rw [← h.len j hj]; exact (List.getElem?_eq_some_iff.1 q).1)] at hx'
        exact h.data hT' hj q hx'
      · rw [List.getElem?_append_right (by rw [← h.len j hj]; omega), ← h.len j hj, q, Nat.sub_self] at hx'
        cases hx'
        exact ⟨rfl, hD⟩
    · rw [upd_ne _ _ c] at hx'
      rcases ent j i e hj he with q | ⟨q, _⟩
      · exact h.data hT' hj q hx'
      · exact absurd q c
  · rcases ent j i e hj he with q | ⟨q1, q2, rfl⟩
    · rcases ent j' i' e' hj' he' with q' | ⟨q1', q2', rfl⟩
      · exact h.dne j i j' i' e e' g hj hj' hne q q' hg
      · intro hg'
        have := hdv g hg'
        have := h.own_lt g (.inr (.inr ⟨j, i, e, hj, q, hg⟩))
        omega
    · rcases ent j' i' e' hj' he' with q' | ⟨q1', q2', rfl⟩
      · intro hg'
        have := hdv g hg
        have := h.own_lt g (.inr (.inr ⟨j', i', e', hj', q', hg'⟩))
        omega
      · omega
theorem Went.moved {k i : Nat} {mv : Int} (h : PN W B n s m) (hk : k < 4) (hB : B ≤ W.heap.size) (hS : MovedTo W n s k i mv W') (m' : MN) (h1 : m'.L = upd m.L k ((m.L k).eraseIdx i)) (h2 : m'.full = m.full) (h3 : m'.long = m.long) (h4 : m'.moved = mv) : Went W B n s m' W' := by
  obtain ⟨v3, hN, hT, hv3⟩ := hS
  have hT' : Touch (fun g => g = n ∨ ∃ k, k < 4 ∧ (s.v k).ownBlock = some g) W W' := hT.mono fun g hg => .inl (hg.imp id fun e => ⟨k, hk, e⟩)
  have ent : ∀ j q, ∃ q', (∀ e, (upd s.es k ((s.es k).eraseIdx i) j)[q]? = some e → (s.es j)[q']? = some e) ∧ (∀ x, (upd m.L k ((m.L k).eraseIdx i) j)[q]? = some x → (m.L j)[q']? = some x) ∧ q' = (if j = k ∧ i ≤ q then q + 1 else q) := by
    intro j q
    by_cases c : j = k
    · subst c
      refine ⟨_, fun e he => ?_, fun x hx => ?_, rfl⟩
      · rw [upd_same, List.getElem?_eraseIdx] at he
        by_cases c2 : q < i
        · rw [if_pos c2] at he; rw [if_neg (by omega)]; exact he
        · rw [if_neg c2] at he; rw [if_pos ⟨rfl, by omega⟩]; exact he
      · rw [upd_same, List.getElem?_eraseIdx] at hx
        by_cases c2 : q < i
        · rw [if_pos c2] at hx; rw [if_neg (by omega)]; exact hx
        · rw [if_neg c2] at hx; rw [if_pos ⟨rfl, by omega⟩]; exact hx
    · exact ⟨_, fun e he => by rw [upd_ne _ _ c] at he; rw [if_neg (fun h => c h.1)]; exact he, fun x hx => by rw [upd_ne _ _ c] at hx; rw [if_neg (fun h => c h.1)]; exact hx, rfl⟩
  have hO : ∀ g, Own { s with v := upd s.v k v3, es := upd s.es k ((s.es k).eraseIdx i), moved := mv } n g → Own s n g ∨ W.heap.size ≤ g := by
    rintro g (rfl | ⟨j, hj, hg⟩ | ⟨j, q, e, hj, he, hg⟩)
    · exact .inl (.inl rfl)
    · have hg' : (upd s.v k v3 j).ownBlock = some g := hg
      by_cases c : j = k
      · subst c
        rw [upd_same] at hg'
        exact (hv3 g hg').imp (fun e => .inr (.inl ⟨j, hk, e⟩)) id
      · rw [upd_ne _ _ c] at hg'; exact .inl (.inr (.inl ⟨j, hj, hg'⟩))
    · obtain ⟨q', e1, _⟩ := ent j q
      exact .inl (.inr (.inr ⟨j, q', e, hj, e1 e he, hg⟩))
  refine ⟨_, ⟨hN, h.full.trans h2.symm, h.long.trans h3.symm, h4.symm, fun j hj => ?_, fun j hj q e x he hx => ?_, fun j q j' q' e e' g hj hj' hne he he' hg => ?_, fun g hg => (hO g hg).elim (h.low g) (fun e => Nat.le_trans hB e)⟩, hT.mono (fun g hg => .inl (hg.elim .inl fun e => .inr (.inl ⟨k, hk, e⟩))), hO⟩
  · rw [h1]
    show (upd s.es k _ j).length = (upd m.L k _ j).length
    by_cases c : j = k
    · subst c; rw [upd_same, upd_same, List.length_eraseIdx, List.length_eraseIdx, h.len j hj]
    · rw [upd_ne _ _ c, upd_ne _ _ c]; exact h.len j hj
  · rw [h1] at hx
    obtain ⟨p, e1, e2, _⟩ := ent j q
    exact h.data hT' hj (e1 e he) (e2 x hx)
  · obtain ⟨p, e1, _, e3⟩ := ent j q
    obtain ⟨p', e1', _, e3'⟩ := ent j' q'
    refine h.dne j p j' p' e e' g hj hj' ?_ (e1 e he) (e1' e' he') hg
    by_cases c : j = j'
    · subst c
      refine .inr ?_
      have : q ≠ q' := hne.elim (fun e => absurd rfl e) id
      rw [e3, e3']
      split <;> split <;> omega
    · exact .inl c
/-- What is moved out: its bytes still lie there. -/
theorem PN.out {k i : Nat} {mv : Int} {e : E} {x : Ml} (h : PN W B n s m) (hk : k < 4) (hS : MovedTo W n s k i mv W') (he : (s.es k)[i]? = some e) (hx : (m.L k)[i]? = some x) : On W' 5 1 e.1 x.1.length (x.1.map (.int .u8)) := by
  obtain ⟨v3, hN, hT, hv3⟩ := hS
  exact (h.data (hT.mono fun g hg => .inl (hg.imp id fun e => ⟨k, hk, e⟩)) hk he hx).2
end
end Go.Proofs.Ytmceaffoffemlaa.Netw
