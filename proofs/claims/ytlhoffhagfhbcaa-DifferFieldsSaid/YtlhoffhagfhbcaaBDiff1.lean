/-
  Texts joined: Kit, Blk, Flat, Put, DfA, DfB. No condition.
-/
import Derived.WalkKit
import Derived.WalkSpells
import Derived.WalkLawsBesides
import Derived.BigQuiet
import Derived.Deep.QuietTactic
import Derived.Deep.RegionHeld3
import Derived.Deep.RegionLaw
import Derived.Deep.DeepCutAuto
import Derived.Deep.LoopGhost
import Derived.Deep.AppendLies
import Derived.Deep.Draws
import Derived.Lib.Hide
import Derived.KernelRfl
import Derived.Deep.MidRow
import Derived.IntWalk
import Derived.Test.YtlhoffhagfhbcaaProg
import Derived.Laws.BytesArg
import Derived.BigRegion
namespace Go.Proofs.Ytlhoffhagfhbcaa
open Go.RowKit

theorem ret_bool {a b : Bool} (h : a = b) : Ending.returned (.bool a) = .returned (.bool b) := by rw [h]
theorem ret_int {k : IntKind} {a b : Int} (h : a = b) : Ending.returned (.int k a) = .returned (.int k b) := by rw [h]
theorem ret_val {a b : Value} (h : a = b) : Ending.returned a = .returned b := by rw [h]
theorem below_drewN {B : Nat} {a w : World} (h : Below B a w) (n : Nat) : Below B a (w.drewN n) := ⟨h.os, h.tape, h.output, h.size, h.block⟩
theorem bcell {W w1 : World} (hb : Below W.heap.size W w1) : (∀ b o, b < W.heap.size → w1.cell? ⟨b, o, none⟩ = W.cell? ⟨b, o, none⟩) ∧ (∀ b o, b < W.heap.size → w1.frozen? ⟨b, o, none⟩ = W.frozen? ⟨b, o, none⟩) :=
  ⟨fun b o h => hb.cell (p := ⟨b, o, none⟩) h, fun b o h => hb.frozen (p := ⟨b, o, none⟩) h⟩
theorem heap_new (w : World) (o : Obj) : (w.alloc o).heap[w.heap.size]? = some o := by
  show (w.heap.push o)[w.heap.size]? = some o
  simp
theorem heap_old (w : World) (o : Obj) {k : Nat} (h : k < w.heap.size) : (w.alloc o).heap[k]? = w.heap[k]? := Below.heap_alloc w o k h
theorem lt_of_heap {w : World} {k : Nat} {o : Obj} (h : w.heap[k]? = some o) : k < w.heap.size := (Array.getElem?_eq_some_iff.1 h).1

/-- The j-th of a list of numbers: a word that the walk doesn't look into. -/
def nth (l : List Int) (j : Nat) : Int := l.getD j 0

/-! ### Which blocks may have turned -/
structure Touch (S : Nat → Prop) (w w' : World) : Prop where
  os : w'.os = w.os
  tape : w'.tape = w.tape
  output : w'.output = w.output
  size : w.heap.size ≤ w'.heap.size
  block : ∀ k, k < w.heap.size → ¬ S k → w'.heap[k]? = w.heap[k]?
def noB : Nat → Prop := fun _ => False
section
variable {S S' : Nat → Prop} {a w w' : World}
theorem Touch.refl (S : Nat → Prop) (w : World) : Touch S w w := ⟨rfl, rfl, rfl, Nat.le_refl _, fun _ _ _ => rfl⟩
theorem Touch.trans {w1 w2 : World} (h : Touch S w w1) (h' : Touch S' w1 w2) (hs : ∀ k, S' k → S k ∨ w.heap.size ≤ k) : Touch S w w2 :=
  ⟨h'.os.trans h.os, h'.tape.trans h.tape, h'.output.trans h.output, Nat.le_trans h.size h'.size, fun k hk hn =>
    (h'.block k (Nat.lt_of_lt_of_le hk h.size) (fun hS => (hs k hS).elim hn (fun h1 => absurd hk (by omega)))).trans (h.block k hk hn)⟩
theorem Touch.mono (h : Touch S w w') (hs : ∀ k, S k → S' k ∨ w.heap.size ≤ k) : Touch S' w w' :=
  ⟨h.os, h.tape, h.output, h.size, fun k hk hn => h.block k hk (fun hS => (hs k hS).elim hn (fun h1 => absurd hk (by omega)))⟩
theorem Touch.drew (h : Touch S a w) : Touch S a w.drew := ⟨h.os, h.tape, h.output, h.size, h.block⟩
theorem Touch.drewN (h : Touch S a w) (n : Nat) : Touch S a (w.drewN n) := ⟨h.os, h.tape, h.output, h.size, h.block⟩
theorem Touch.alloc (h : Touch S a w) (o : Obj) : Touch S a (w.alloc o) :=
  ⟨h.os, h.tape, h.output, Nat.le_trans h.size (by simp), fun k hk hn => (heap_old w o (Nat.lt_of_lt_of_le hk h.size)).trans (h.block k hk hn)⟩
theorem Touch.setCell (h : Touch S a w) {p : Addr} (hp : S p.block ∨ a.heap.size ≤ p.block) (u : Value) : Touch S a (w.setCell p u) :=
  ⟨h.os, h.tape, h.output, by simpa [World.setCell] using h.size, fun k hk hn => (Below.heap_setCell w p u k (fun e => by subst e; exact hp.elim hn (fun h1 => absurd hk (by omega)))).trans (h.block k hk hn)⟩
theorem Touch.grown {row : Option Nat} (h : Touch S a w) (hg : w.grownBy w' row) (hr : ∀ k, row = some k → S k ∨ a.heap.size ≤ k) : Touch S a w' :=
  ⟨hg.os.trans h.os, hg.tape.trans h.tape, hg.output.trans h.output, Nat.le_trans h.size hg.size, fun k hk hn =>
    (hg.block k (Nat.lt_of_lt_of_le hk h.size) (fun e => (hr k e.symm).elim hn (fun h1 => absurd hk (by omega)))).trans (h.block k hk hn)⟩
theorem Touch.of_below (h : Below w.heap.size w w') : Touch S w w' := ⟨h.os, h.tape, h.output, h.size, fun k hk _ => h.block k hk⟩
theorem Touch.below {B : Nat} (h : Touch S w w') (hB : B ≤ w.heap.size) (hs : ∀ k, S k → B ≤ k) : Below B w w' :=
  ⟨h.os, h.tape, h.output, h.size, fun k hk => h.block k (by omega) (fun hS => absurd (hs k hS) (by omega))⟩
/-- What lies from B on stays from B on, and below B nothing has turned. -/
theorem Touch.base {B : Nat} (h : Touch S w w') (hF : ∀ k, S' k → S k ∨ w.heap.size ≤ k) (hB : B ≤ w.heap.size) (h0 : ∀ k, S k → B ≤ k) : Below B w w' ∧ (∀ k, S' k → B ≤ k) ∧ B ≤ w'.heap.size :=
  ⟨h.below hB h0, fun k hk => (hF k hk).elim (h0 k) (fun e => Nat.le_trans hB e), Nat.le_trans hB h.size⟩
theorem Touch.cell (h : Touch S w w') {p : Addr} (hk : p.block < w.heap.size) (hn : ¬ S p.block) : w'.cell? p = w.cell? p := World.cell?_of_block (h.block p.block hk hn)
theorem Touch.frozen (h : Touch S w w') {p : Addr} (hk : p.block < w.heap.size) (hn : ¬ S p.block) : w'.frozen? p = w.frozen? p := World.frozen?_of_block (h.block p.block hk hn)
end

/-! ### A block that is known whole -/
def Blk (w : World) (g : Nat) (t : TypeId) (cs : Array Value) : Prop := w.heap[g]? = some (.cells cs t (0, 0))
section
variable {S : Nat → Prop} {w w' : World} {g : Nat} {t : TypeId} {cs : Array Value}
theorem Blk.lt (h : Blk w g t cs) : g < w.heap.size := lt_of_heap h
theorem Blk.cell (h : Blk w g t cs) (i : Nat) : w.cell? ⟨g, i, none⟩ = cs[i]? := cell_of_row w g i cs t (0, 0) h
theorem Blk.frozen (h : Blk w g t cs) (i : Nat) : w.frozen? ⟨g, i, none⟩ = false := by
  unfold Blk at h
  simp [World.frozen?, h]
theorem Blk.new (w : World) (t : TypeId) (cs : Array Value) : Blk (w.alloc (.cells cs t)) w.heap.size t cs := heap_new w _
theorem Blk.drew (h : Blk w g t cs) : Blk w.drew g t cs := h
theorem Blk.drewN (h : Blk w g t cs) (n : Nat) : Blk (w.drewN n) g t cs := h
theorem Blk.alloc (h : Blk w g t cs) (o : Obj) : Blk (w.alloc o) g t cs := (heap_old w o h.lt).trans h
theorem Blk.set_ (h : Blk w g t cs) (i : Nat) (u : Value) : Blk (w.setCell ⟨g, i, none⟩ u) g t (cs.setIfInBounds i u) := by
  unfold Blk at h ⊢
  simp [World.setCell, Array.getElem?_modify, h]
theorem Blk.far (h : Blk w g t cs) {p : Addr} (hp : g ≠ p.block) (u : Value) : Blk (w.setCell p u) g t cs := (Below.heap_setCell w p u g hp).trans h
theorem Blk.below {B : Nat} (h : Blk w g t cs) (hb : Below B w w') (hg : g < B) : Blk w' g t cs := (hb.block g hg).trans h
theorem Blk.touch (h : Blk w g t cs) (hb : Touch S w w') (hg : ¬ S g) : Blk w' g t cs := (hb.block g h.lt hg).trans h
theorem Blk.grown {row : Option Nat} (h : Blk w g t cs) (hb : w.grownBy w' row) (hg : some g ≠ row) : Blk w' g t cs := (hb.block g h.lt hg).trans h
theorem Blk.grown' {row : Option Nat} (hb : w.grownBy w' row) (h : Blk w g t cs) (hg : row ≠ some g) : Blk w' g t cs := h.grown hb (fun e => hg e.symm)
theorem Blk.heap_eq (h : Blk w g t cs) (hW : w'.heap = w.heap) : Blk w' g t cs := by unfold Blk; rw [hW]; exact h
theorem Blk.ne_ {g' : Nat} {t' : TypeId} {cs' : Array Value} (h : Blk w g t cs) (h' : Blk w g' t' cs') (hne : t ≠ t') : g ≠ g' := by
  rintro rfl
  unfold Blk at h h'
  rw [h] at h'
  injection h' with h'
  injection h' with _ ht
  exact hne ht
end

/-! ### A slice at a block's head: its capacity may be below the block's length -/
def On (w : World) (e : TypeId) (size : Nat) (v : Value) (n : Nat) (xs : List Value) : Prop :=
  xs.length = n * size ∧
  ((v = .slice none 0 0 ∧ n = 0) ∨
   ∃ g cap cur, v = .slice (some ⟨g, 0, none⟩) n cap ∧ w.heap[g]? = some (.cells cur e (0, 0)) ∧ n ≤ cap ∧ cap ≤ maxLen ∧ cap * size ≤ cur.size ∧ cur.toList.take (n * size) = xs)
section
variable {S : Nat → Prop} {w w' : World} {e : TypeId} {size : Nat} {v : Value} {n : Nat} {xs : List Value}
theorem On.nil (w : World) (e : TypeId) (size : Nat) : On w e size (.slice none 0 0) 0 [] := ⟨by simp, .inl ⟨rfl, rfl⟩⟩
theorem On.of_heap (h : On w e size v n xs) (hh : ∀ g, v.ownBlock = some g → w'.heap[g]? = w.heap[g]?) : On w' e size v n xs := by
  refine ⟨h.1, ?_⟩
  rcases h.2 with h2 | ⟨g, cap, cur, rfl, hg, r⟩
  · exact .inl h2
  · exact .inr ⟨g, cap, cur, rfl, by rw [hh g (by simp [Value.ownBlock])]; exact hg, r⟩
theorem On.heap_eq (h : On w e size v n xs) (hW : w'.heap = w.heap) : On w' e size v n xs := h.of_heap fun _ _ => by rw [hW]
theorem On.lt (h : On w e size v n xs) : ∀ g, v.ownBlock = some g → g < w.heap.size := by
  intro g hg
  rcases h.2 with ⟨rfl, _⟩ | ⟨g', cap, cur, rfl, hh, _⟩
  · simp [Value.ownBlock] at hg
  · simp [Value.ownBlock] at hg
    subst hg
    exact lt_of_heap hh
theorem On.drew (h : On w e size v n xs) : On w.drew e size v n xs := h
theorem On.drewN (h : On w e size v n xs) (k : Nat) : On (w.drewN k) e size v n xs := h
theorem On.alloc (h : On w e size v n xs) (o : Obj) : On (w.alloc o) e size v n xs := h.of_heap fun g hg => heap_old w o (h.lt g hg)
theorem On.far (h : On w e size v n xs) {p : Addr} (hp : v.ownBlock ≠ some p.block) (u : Value) : On (w.setCell p u) e size v n xs :=
  h.of_heap fun g hg => Below.heap_setCell w p u g (fun e => hp (by rw [hg, e]))
theorem On.below {B : Nat} (h : On w e size v n xs) (hb : Below B w w') (hB : ∀ g, v.ownBlock = some g → g < B) : On w' e size v n xs := h.of_heap fun g hg => hb.block g (hB g hg)
theorem On.touch (h : On w e size v n xs) (hb : Touch S w w') (hS : ∀ g, v.ownBlock = some g → ¬ S g) : On w' e size v n xs := h.of_heap fun g hg => hb.block g (h.lt g hg) (hS g hg)
theorem On.grown {row : Option Nat} (h : On w e size v n xs) (hb : w.grownBy w' row) (hS : v.ownBlock = none ∨ v.ownBlock ≠ row) : On w' e size v n xs :=
  h.of_heap fun g hg => hb.block g (h.lt g hg) (fun e => hS.elim (fun h1 => by rw [hg] at h1; cases h1) (fun h1 => h1 (hg.trans e)))
/-- The value, written out: nil, or a block with its cells. -/
theorem On.form (h : On w e size v n xs) : (v = .slice none 0 0 ∧ n = 0 ∧ xs = []) ∨ ∃ g cap, v = .slice (some ⟨g, 0, none⟩) n cap ∧ n ≤ cap ∧ cap ≤ maxLen ∧ v.ownBlock = some g ∧ g < w.heap.size ∧ (∀ j u, xs[j]? = some u → w.cell? ⟨g, j, none⟩ = some u) ∧ (∀ j, w.frozen? ⟨g, j, none⟩ = false) := by
  have hl := h.1
  rcases h.2 with ⟨rfl, rfl⟩ | ⟨g, cap, cur, rfl, hg, hnc, hcm, hcs, htake⟩
  · exact .inl ⟨rfl, rfl, List.eq_nil_of_length_eq_zero (by simpa using hl)⟩
  · refine .inr ⟨g, cap, rfl, hnc, hcm, rfl, lt_of_heap hg, fun j u hu => ?_, fun j => by simp [World.frozen?, hg]⟩
    rw [cell_of_row w g j cur e (0, 0) hg]
    rw [← htake, List.getElem?_take] at hu
    split at hu
    · simpa using hu
    · cases hu
theorem On.slice (h : On w e size v n xs) : ∃ a c, v = .slice a n c ∧ n ≤ c ∧ c ≤ maxLen := by
  rcases h.2 with ⟨rfl, rfl⟩ | ⟨g, cap, cur, rfl, _, hnc, hcm, _⟩
  · exact ⟨_, _, rfl, Nat.le_refl _, by simp [maxLen]⟩
  · exact ⟨_, _, rfl, hnc, hcm⟩
theorem On.blk_ne {r : Nat} {t : TypeId} {cs : Array Value} (h : On w e size v n xs) (hr : Blk w r t cs) (hne : e ≠ t) : v.ownBlock ≠ some r := by
  rcases h.2 with ⟨rfl, _⟩ | ⟨g, cap, cur, rfl, hg, _⟩
  · simp [Value.ownBlock]
  · intro he
    have : g = r := by simpa [Value.ownBlock] using he
    subst this
    exact Blk.ne_ (t := e) hg hr hne rfl
/-- A cut at the front that keeps the head: 'v[:k:k]', k at most n. -/
theorem On.cut {g cap : Nat} (h : On w e size (.slice (some ⟨g, 0, none⟩) n cap) n xs) {k : Nat} (hk : k ≤ n) : On w e size (.slice (some ⟨g, 0, none⟩) k k) k (xs.take (k * size)) := by
  have hl := h.1
  rcases h.2 with ⟨hv, _⟩ | ⟨g', cap', cur, hv, hg, hnc, hcm, hcs, htake⟩
  · cases hv
  · cases hv
    have hks : k * size ≤ n * size := Nat.mul_le_mul_right _ hk
    have hcs' : k * size ≤ cur.size := Nat.le_trans (Nat.mul_le_mul_right _ (Nat.le_trans hk hnc)) hcs
    refine ⟨by rw [List.length_take, hl]; omega, .inr ⟨g, k, cur, rfl, hg, Nat.le_refl _, by omega, hcs', ?_⟩⟩
    rw [← htake, List.take_take, Nat.min_eq_left hks]
/-- One element stored in place. -/
theorem On.store {g cap : Nat} (h : On w e 1 (.slice (some ⟨g, 0, none⟩) n cap) n xs) (k : Nat) (u : Value) : On (w.setCell ⟨g, k, none⟩ u) e 1 (.slice (some ⟨g, 0, none⟩) n cap) n (xs.set k u) := by
  have hl := h.1
  rcases h.2 with ⟨hv, _⟩ | ⟨g', cap', cur, hv, hg, hnc, hcm, hcs, htake⟩
  · cases hv
  · cases hv
    refine ⟨by rw [List.length_set]; exact hl, .inr ⟨g, cap, cur.setIfInBounds k u, rfl, ?_, hnc, hcm, by simpa using hcs, ?_⟩⟩
    · exact Blk.set_ (t := e) hg k u
    · rw [← htake, Array.toList_setIfInBounds, List.take_set]
end

/-! ### append -/
section
variable {P : Program} (w : World)
theorem run_append_room_on (t ty e : TypeId) (i : TypeInfo) (ht : P.underlying t = some (.slice e)) (hi : P.info? e = some i)
    (g n cap : Nat) (hroom : n ≤ cap) (x : Value) (hx : ∃ A c, x = .slice A 0 c) :
    (Builtin.append_ #[t, t] ty #[.slice (some ⟨g, 0, none⟩) n cap, x]).run P w = .ok (.slice (some ⟨g, 0, none⟩) n cap) w := by
  obtain ⟨A, c, rfl⟩ := hx
  cases A with
  | none => simp [Builtin.append_, run_underlying ht, sizeOf, typeInfo, hi, Builtin.lenOf, Builtin.firstCells, hroom, storeCells]
  | some ad =>
    have hf := run_firstCells_some (P := P) w i.size 0 ad 0 c [] (by simp) (by simp)
    simp [Builtin.append_, run_underlying ht, sizeOf, typeInfo, hi, Builtin.lenOf, hroom, hf, storeCells]

theorem own_le {v v' : Value} {b n : Nat} (h : v'.ownBlock = v.ownBlock ∨ v'.ownBlock = some b) (hb : n ≤ b) : ∀ k, v'.ownBlock = some k → v.ownBlock = some k ∨ n ≤ k := fun k hk =>
  h.elim (fun e => .inl (e ▸ hk)) (fun e => .inr (by rw [e] at hk; cases hk; exact hb))

/-- The source: m elements whose cells are 'news', at an address if there is one. -/
def Src (w : World) (A : Option Addr) (m : Nat) (news : List Value) : Prop := (m = 0 ∧ news = []) ∨ ∃ ad, A = some ad ∧ ∀ j u, news[j]? = some u → w.cell? (ad.add j) = some u

/-- The source is the end of a slice at a block's head. -/
theorem src_drop {w : World} {e : TypeId} {g n cap : Nat} {xs : List Value} (h : On w e 1 (.slice (some ⟨g, 0, none⟩) n cap) n xs) (k : Nat) : Src w (some ⟨g, k, none⟩) (n - k) (xs.drop k) := by
  refine .inr ⟨_, rfl, fun j u hu => ?_⟩
  rcases h.form with ⟨hv, _⟩ | ⟨g', cap', hv, _, _, _, _, hc, _⟩
  · cases hv
  · cases hv
    have hadd : (⟨g, k, none⟩ : Addr).add j = ⟨g, k + j, none⟩ := by unfold Addr.add; split <;> simp_all
    rw [hadd]
    exact hc _ u (by rw [← hu, List.getElem?_drop])
theorem On.src {w : World} {e : TypeId} {size n c : Nat} {A : Option Addr} {xs : List Value} (h : On w e size (.slice A n c) n xs) : Src w A n xs := by
  rcases h.form with ⟨hv, hn, hx⟩ | ⟨g', cap', hv, _, _, _, _, hc, _⟩
  · exact .inl ⟨hn, hx⟩
  · cases hv
    refine .inr ⟨_, rfl, fun j u hu => ?_⟩
    have hadd : (⟨g', 0, none⟩ : Addr).add j = ⟨g', j, none⟩ := by unfold Addr.add; split <;> simp_all
    rw [hadd]
    exact hc _ u hu
/-- A new block of no cells. -/
theorem On.empty (w : World) (e : TypeId) (size : Nat) : On (w.alloc (.cells #[] e)) e size (.slice (some ⟨w.heap.size, 0, none⟩) 0 0) 0 [] :=
  ⟨by simp, .inr ⟨w.heap.size, 0, #[], rfl, heap_new w _, Nat.le_refl _, by simp [maxLen], by simp, by simp⟩⟩
theorem one_map (k : IntKind) (l : List Int) : ∀ u ∈ l.map (Value.int k), u.oneCell' = true := by
  intro u hu
  obtain ⟨x, _, rfl⟩ := List.mem_map.1 hu
  rfl
theorem one_drop (k : IntKind) (l : List Int) (n : Nat) : ∀ u ∈ (l.map (Value.int k)).drop n, u.oneCell' = true := fun u hu => one_map k l u (List.mem_of_mem_drop hu)
theorem len_drop (k : IntKind) (l : List Int) (n : Nat) : ((l.map (Value.int k)).drop n).length = (l.length - n) * 1 := by simp
theorem Src.drewN {w : World} {A : Option Addr} {m : Nat} {news : List Value} (h : Src w A m news) (k : Nat) : Src (w.drewN k) A m news := h
theorem Src.drew {w : World} {A : Option Addr} {m : Nat} {news : List Value} (h : Src w A m news) : Src w.drew A m news := h

theorem run_append_on (t ty e : TypeId) (i : TypeInfo) (z : Value) (size bytes : Nat) (ht : P.underlying t = some (.slice e)) (hi : P.info? e = some i) (hz : i.zero = some z)
    (hsize : i.size = size) (hby : i.bytes = bytes) (hzs : z.cells.size = size) (hsz : 0 < size)
    (v : Value) (n : Nat) (xs : List Value) (hown : On w e size v n xs)
    (A : Option Addr) (m c : Nat) (news : List Value) (hl : news.length = m * size) (hnews : Src w A m news) (h1 : ∀ u ∈ news, u.oneCell' = true)
    (h63 : n + m ≤ maxLen) (hbytes : (n + m) * bytes ≤ 140737488355328) :
    ∃ v' w', (Builtin.append_ #[t, t] ty #[v, .slice A m c]).run P w = .ok v' w' ∧ On w' e size v' (n + m) (xs ++ news) ∧ w.grownBy w' v.ownBlock ∧
      (v'.ownBlock = v.ownBlock ∨ v'.ownBlock = some w.heap.size) := by
  subst hsize
  subst hby
  have hsmall : n + m ≤ 9223372036854775807 := by simp only [maxLen] at h63; omega
  have hlen : (xs ++ news).length = (n + m) * i.size := by rw [List.length_append, hown.1, hl, Nat.add_mul]
  by_cases hm : m = 0
  · subst hm
    have hn : news = [] := List.eq_nil_of_length_eq_zero (by simpa using hl)
    subst hn
    have hself := hown
    rcases hown.2 with ⟨rfl, rfl⟩ | ⟨g, cap, cur, rfl, hg, hnc, hcm, hcs, htake⟩
    · refine ⟨.slice none 0 0, w, ?_, by simpa using hself, ⟨rfl, rfl, rfl, Nat.le_refl _, fun _ _ _ => rfl⟩, .inl rfl⟩
      cases A with
      | none => simp [Builtin.append_, run_underlying ht, sizeOf, typeInfo, hi, Builtin.lenOf, Builtin.firstCells]
      | some ad => simp [Builtin.append_, run_underlying ht, sizeOf, typeInfo, hi, Builtin.lenOf, Builtin.firstCells, loadCells, loadCellsFrom]
    · exact ⟨_, w, run_append_room_on w t ty e i ht hi g n cap hnc _ ⟨A, c, rfl⟩, by simpa using hself, ⟨rfl, rfl, rfl, Nat.le_refl _, fun _ _ _ => rfl⟩, .inl rfl⟩
  · obtain ⟨ad, rfl, hcells⟩ : ∃ ad, A = some ad ∧ ∀ j u, news[j]? = some u → w.cell? (ad.add j) = some u := by
      rcases hnews with ⟨h0, _⟩ | h2
      · exact absurd h0 hm
      · exact h2
    have grown : ∀ (old : Nat), old < n + m → ∀ (row : Option Nat),
        On (w.drew.alloc (.cells (xs.toArray ++ news.toArray ++ Builtin.zeroCells z.cells (grownCap w (n + m) old e - (n + m))) e)) e i.size
          (.slice (some ⟨w.heap.size, 0, none⟩) (n + m) (grownCap w (n + m) old e)) (n + m) (xs ++ news) ∧
        w.grownBy (w.drew.alloc (.cells (xs.toArray ++ news.toArray ++ Builtin.zeroCells z.cells (grownCap w (n + m) old e - (n + m))) e)) row := by
      intro old ho row
      have hge := grownCap_ge w (n + m) old e
      have hcm : grownCap w (n + m) old e ≤ maxLen := grownCap_le_maxLen w (n + m) old e h63
      refine ⟨⟨hlen, .inr ⟨w.heap.size, _, _, rfl, heap_new w.drew _, hge, hcm, ?_, ?_⟩⟩, ⟨rfl, rfl, rfl, by simp, fun k hk _ => heap_old w.drew _ hk⟩⟩
      · simp only [Array.size_append, List.size_toArray, size_zeroCells, hzs, hown.1, hl, ← Nat.add_mul]
        apply Nat.mul_le_mul_right
        omega
      · simp only [Array.toList_append, List.append_assoc]
        rw [← List.append_assoc, ← hlen]
        exact List.take_left
    rcases hown.2 with ⟨rfl, rfl⟩ | ⟨g, cap, cur, rfl, hg, hnc, hcm, hcs, htake⟩
    · have hx : xs = [] := List.eq_nil_of_length_eq_zero (by simpa using hown.1)
      subst hx
      have hr := run_append_nil (P := P) w t ty e i z ht hi hz ad m c news hl hcells (by omega) (by omega) (by have hb := hbytes; simp only [Nat.zero_add] at hb; omega)
      have hgr := grown 0 (by omega) (Value.ownBlock (.slice none 0 0))
      simp only [Nat.zero_add, List.nil_append, Array.empty_append] at hgr ⊢
      exact ⟨_, _, hr, hgr.1, hgr.2, .inr rfl⟩
    · by_cases hroom : n + m ≤ cap
      · have hfit : n * i.size + news.length ≤ cur.size := by rw [hl, ← Nat.add_mul]; exact Nat.le_trans (Nat.mul_le_mul_right _ hroom) hcs
        have hr := run_append_room (P := P) w t ty e i ht hi g n cap cur hg ad m c news hl hcells h1 hroom hfit
        refine ⟨_, _, hr, ⟨hlen, .inr ⟨g, cap, _, rfl, setRow_heap w g cur _ e _ hg, hroom, hcm, ?_, ?_⟩⟩, ⟨rfl, rfl, rfl, by simp, fun k _ hk => setRow_other w g k _ (fun e => hk (by simp [Value.ownBlock, e]))⟩, .inl rfl⟩
        · simp only [List.size_toArray, List.length_append, List.length_take, List.length_drop, Array.length_toList]
          omega
        · rw [htake, ← hlen]
          exact List.take_left
      · have holds : ∀ j u, xs[j]? = some u → w.cell? ((⟨g, 0, none⟩ : Addr).add j) = some u := by
          intro j u hu
          have hadd : (⟨g, 0, none⟩ : Addr).add j = ⟨g, j, none⟩ := by unfold Addr.add; split <;> simp_all
          rw [hadd, cell_of_row w g j cur e (0, 0) hg]
          rw [← htake, List.getElem?_take] at hu
          split at hu
          · simpa using hu
          · cases hu
        have hr := run_append_grow (P := P) w t ty e i z ht hi hz ⟨g, 0, none⟩ n cap xs hown.1 holds ad m c news hl hcells (by omega) (by omega) (growslice_fits (by omega) hbytes)
        have hgr := grown cap (by omega) (Value.ownBlock (.slice (some ⟨g, 0, none⟩) n cap))
        exact ⟨_, _, hr, hgr.1, hgr.2, .inr rfl⟩

theorem wp_append_on {o : Oper} {a : Act} {K : Act → World → Prop} {Q : Exit → Act → World → Prop} (s x : Operand) (t : TypeId)
    (ho : o.op = .call { callee := .builtin .append, args := #[s, x], argTypes := #[t, t] })
    (e : TypeId) (i : TypeInfo) (z : Value) (size bytes : Nat) (ht : P.underlying t = some (.slice e)) (hi : P.info? e = some i) (hz : i.zero = some z)
    (hsize : i.size = size) (hby : i.bytes = bytes) (hzs : z.cells.size = size) (hsz : 0 < size)
    (v : Value) (n : Nat) (xs : List Value) (hs : a.eval s = v) (hown : On w e size v n xs)
    (A : Option Addr) (m c : Nat) (news : List Value) (hx : a.eval x = .slice A m c) (hl : news.length = m * size) (hnews : Src w A m news) (h1 : ∀ u ∈ news, u.oneCell' = true)
    (h63 : n + m ≤ maxLen) (hbytes : (n + m) * bytes ≤ 140737488355328)
    (h : ∀ v' w', On w' e size v' (n + m) (xs ++ news) → w.grownBy w' v.ownBlock → (v'.ownBlock = v.ownBlock ∨ v'.ownBlock = some w.heap.size) → K (a.put o.dst v') w') : o.wp P a w K Q := by
  obtain ⟨v', w', hrun, h2, h3, h4⟩ := run_append_on (P := P) w t o.type e i z size bytes ht hi hz hsize hby hzs hsz v n xs hown A m c news hl hnews h1 h63 hbytes
  unfold Oper.wp execOp
  simp only [ho, resolve, invoke, builtin, Sem.run_bind, Sem.run_pure, Result.andThen_ok, List.map_toArray, List.map_cons, List.map_nil, hs, hx, hrun]
  exact h v' w' h2 h3 h4

theorem wpList_append_on {ops : Array Oper} {rest : List Oper} {o : Oper} {a : Act} {Q : Exit → Act → World → Prop} (hgd : o.guard = none) (s x : Operand) (t : TypeId)
    (ho : o.op = .call { callee := .builtin .append, args := #[s, x], argTypes := #[t, t] })
    (e : TypeId) (i : TypeInfo) (z : Value) (size bytes : Nat) (ht : P.underlying t = some (.slice e)) (hi : P.info? e = some i) (hz : i.zero = some z)
    (hsize : i.size = size) (hby : i.bytes = bytes) (hzs : z.cells.size = size) (hsz : 0 < size)
    (v : Value) (n : Nat) (xs : List Value) (hs : a.eval s = v) (hown : On w e size v n xs)
    (A : Option Addr) (m c : Nat) (news : List Value) (hx : a.eval x = .slice A m c) (hl : news.length = m * size) (hnews : Src w A m news) (h1 : ∀ u ∈ news, u.oneCell' = true)
    (h63 : n + m ≤ maxLen) (hbytes : (n + m) * bytes ≤ 140737488355328)
    (h : ∀ v' w', On w' e size v' (n + m) (xs ++ news) → w.grownBy w' v.ownBlock → (v'.ownBlock = v.ownBlock ∨ v'.ownBlock = some w.heap.size) → wpList P ops Q rest (a.put o.dst v') w') : wpList P ops Q (o :: rest) a w :=
  wpList_plain hgd fun _ hK => wp_append_on w s x t ho e i z size bytes ht hi hz hsize hby hzs hsz v n xs hs hown A m c news hx hl hnews h1 h63 hbytes fun v' w' h2 h3 h4 => hK _ _ (h v' w' h2 h3 h4)

theorem step_append_on {ops : Array Oper} {o : Oper} {a : Act} {K : Act → World → Prop} {Q : Exit → Act → World → Prop} {E : Prop} (hgd : o.guard = none) (s x : Operand) (t : TypeId)
    (ho : o.op = .call { callee := .builtin .append, args := #[s, x], argTypes := #[t, t] })
    (e : TypeId) (i : TypeInfo) (z : Value) (size bytes : Nat) (ht : P.underlying t = some (.slice e)) (hi : P.info? e = some i) (hz : i.zero = some z)
    (hsize : i.size = size) (hby : i.bytes = bytes) (hzs : z.cells.size = size) (hsz : 0 < size)
    (v : Value) (n : Nat) (xs : List Value) (hs : a.eval s = v) (hown : On w e size v n xs)
    (A : Option Addr) (m c : Nat) (news : List Value) (hx : a.eval x = .slice A m c) (hl : news.length = m * size) (hnews : Src w A m news) (h1 : ∀ u ∈ news, u.oneCell' = true)
    (h63 : n + m ≤ maxLen) (hbytes : (n + m) * bytes ≤ 140737488355328)
    (h : ∀ v' w', On w' e size v' (n + m) (xs ++ news) → w.grownBy w' v.ownBlock → (v'.ownBlock = v.ownBlock ∨ v'.ownBlock = some w.heap.size) → K (a.put o.dst v') w') :
    if Region.wanted o (yielded ops a.tmps) = true then Oper.wp P o a w K Q else E := by
  have hw : Region.wanted o (yielded ops a.tmps) = true := by simp [Region.wanted, hgd]
  rw [if_pos hw]
  exact wp_append_on w s x t ho e i z size bytes ht hi hz hsize hby hzs hsz v n xs hs hown A m c news hx hl hnews h1 h63 hbytes h
end

/-- A slice of numbers that came in. -/
def Row (k : IntKind) (w : World) (a : Option Addr) (len : Nat) (zs : List Int) : Prop :=
  zs.length = len ∧ (0 < len → ∃ b off, a = some ⟨b, off, none⟩ ∧ b < w.heap.size ∧ ∀ j, j < len → w.cell? ⟨b, off + j, none⟩ = some (.int k (nth zs j)))
theorem Row.below {k : IntKind} {w w' : World} {a : Option Addr} {len : Nat} {zs : List Int} (h : Row k w a len zs) (hb : Below w.heap.size w w') : Row k w' a len zs :=
  ⟨h.1, fun hp => by
    obtain ⟨b, off, e, hlt, hc⟩ := h.2 hp
    exact ⟨b, off, e, Nat.lt_of_lt_of_le hlt hb.size, fun j hj => (hb.cell (p := ⟨b, off + j, none⟩) hlt).trans (hc j hj)⟩⟩


end Go.Proofs.Ytlhoffhagfhbcaa
namespace Go.Proofs.Ytlhoffhagfhbcaa
open Go.RowKit
set_option linter.all false

section
variable {P : Program} {S : Nat → Prop} {w w' : World} {g : Nat} {t : TypeId} {cs : Array Value}
theorem Blk.setRow (h : Blk w g t cs) (cs' : Array Value) : Blk (w.setRow g cs') g t cs' := setRow_heap w g cs cs' t (0, 0) h
theorem touch_setRow (w : World) (g : Nat) (cs : Array Value) : Touch (fun k => k = g) w (w.setRow g cs) :=
  ⟨rfl, rfl, rfl, by simp, fun k _ hk => setRow_other w g k cs hk⟩
theorem wpList_load_blk {ops : Array Oper} {rest : List Oper} {o : Oper} {a : Act} {Q : Exit → Act → World → Prop} (hgd : o.guard = none) (ty : TypeId) (x : Operand) (ho : o.op = .load ty x)
    (g : Nat) (hx : a.eval x = .pointer (some ⟨g, 0, none⟩)) (t : TypeId) (cs : Array Value) (d : TypeDesc) (hg : Blk w g t cs)
    (hu : P.underlying ty = some d) (hd : (match d with | .struct _ | .array _ _ => true | _ => false) = true) (hi : (P.info? ty).map (·.size) = some cs.size)
    (h : wpList P ops Q rest (a.put o.dst (.agg cs)) w) : wpList P ops Q (o :: rest) a w :=
  wpList_load_row hgd ty x ho g hx t cs (0, 0) d hg hu hd hi h
theorem wpList_store_blk {ops : Array Oper} {rest : List Oper} {o : Oper} {a : Act} {Q : Exit → Act → World → Prop} (hgd : o.guard = none) (ty : TypeId) (x y : Operand) (ho : o.op = .store ty x y)
    (g : Nat) (cells : Array Value) (hx : a.eval x = .pointer (some ⟨g, 0, none⟩)) (hy : a.eval y = .agg cells)
    (t : TypeId) (old : Array Value) (hg : Blk w g t old) (hi : (P.info? ty).map (·.size) = some cells.size)
    (hold : old.size = cells.size) (h1 : cells.all (·.oneCell') = true)
    (h : ∀ w', Blk w' g t cells → Touch (fun k => k = g) w w' → wpList P ops Q rest (a.put o.dst undef) w') : wpList P ops Q (o :: rest) a w :=
  wpList_store_row hgd ty x y ho g cells hx hy t old hg hi hold h1 (h _ (hg.setRow cells) (touch_setRow w g cells))
theorem touch_setCells (h : Touch S w w') (g : Nat) (hg : S g ∨ w.heap.size ≤ g) : ∀ (vs : List Value) (o : Nat), Touch S w (w'.setCells g o vs) := by
  intro vs
  induction vs generalizing w' with
  | nil => intro o; exact h
  | cons v r ih => intro o; exact ih (h.setCell (p := ⟨g, o, none⟩) hg v) (o + 1)
/-- A result that lies in a block. -/
theorem results_blk {fn : Func} {p : Tmp} {ty : TypeId} (h : fn.results = #[.cell p ty]) (tmps : Array Value) (w : World) (g : Nat) (t : TypeId) (cs : Array Value) (d : TypeDesc)
    (hp : tmps.getD p undef = .pointer (some ⟨g, 0, none⟩)) (hg : Blk w g t cs)
    (hu : P.underlying ty = some d) (hd : (match d with | .struct _ | .array _ _ => true | _ => false) = true) (hi : (P.info? ty).map (·.size) = some cs.size) :
    (results fn tmps).run P w = .ok (.agg cs) w := results_cell_row h tmps w g t cs (0, 0) d hp hg hu hd hi
end
end Go.Proofs.Ytlhoffhagfhbcaa
namespace Go.Proofs.Ytlhoffhagfhbcaa
open Go.RowKit

def flat {α : Type} (cs : α → List Value) (l : List α) : List Value := l.flatMap cs
section
variable {α : Type} {cs : α → List Value} {s : Nat}
theorem flat_len (hs : ∀ x, (cs x).length = s) (l : List α) : (flat cs l).length = l.length * s := by
  induction l with
  | nil => simp [flat]
  | cons x l ih =>
    unfold flat at ih ⊢
    rw [List.flatMap_cons, List.length_append, ih, hs, List.length_cons, Nat.add_mul]; omega
theorem flat_snoc (l : List α) (x : α) : flat cs (l ++ [x]) = flat cs l ++ cs x := by simp [flat]
theorem flat_app (l m : List α) : flat cs (l ++ m) = flat cs l ++ flat cs m := by simp [flat]
theorem flat_drop (hs : ∀ x, (cs x).length = s) (l : List α) (k : Nat) : (flat cs l).drop (k * s) = flat cs (l.drop k) := by
  by_cases hk : k ≤ l.length
  · conv => lhs; rw [← List.take_append_drop k l, flat_app]
    have : (flat cs (l.take k)).length = k * s := by rw [flat_len hs, List.length_take, Nat.min_eq_left hk]
    rw [← this]
    exact List.drop_left
  · rw [List.drop_of_length_le (by rw [flat_len hs]; exact Nat.mul_le_mul_right _ (by omega)), List.drop_of_length_le (by omega)]; rfl
theorem flat_take (hs : ∀ x, (cs x).length = s) (l : List α) (k : Nat) : (flat cs l).take (k * s) = flat cs (l.take k) := by
  by_cases hk : k ≤ l.length
  · conv => lhs; rw [← List.take_append_drop k l, flat_app]
    have : (flat cs (l.take k)).length = k * s := by rw [flat_len hs, List.length_take, Nat.min_eq_left hk]
    rw [← this]
    exact List.take_left
  · rw [List.take_of_length_le (by rw [flat_len hs]; exact Nat.mul_le_mul_right _ (by omega)), List.take_of_length_le (by omega)]
theorem flat_get (hs : ∀ x, (cs x).length = s) (l : List α) {j i : Nat} {x : α} (hj : l[j]? = some x) (hi : i < s) : (flat cs l)[j * s + i]? = (cs x)[i]? := by
  have hjl := (List.getElem?_eq_some_iff.1 hj).1
  have h1 := flat_drop hs l j
  rw [← List.getElem?_drop, h1]
  have h2 : l.drop j = x :: l.drop (j + 1) := by
    rw [List.drop_eq_getElem_cons hjl]
    rw [List.getElem?_eq_getElem hjl] at hj
    cases hj; rfl
  rw [h2]
  unfold flat
  rw [List.flatMap_cons, List.getElem?_append_left (by rw [hs]; exact hi)]
theorem one_flat (h : ∀ x, ∀ u ∈ cs x, u.oneCell' = true) (l : List α) : ∀ u ∈ flat cs l, u.oneCell' = true := by
  intro u hu
  obtain ⟨x, _, hx⟩ := List.mem_flatMap.1 hu
  exact h x u hx
end
/-- The source is the end of a slice at a block's head. -/
theorem src_drop_n {w : World} {e : TypeId} {size g n cap : Nat} {xs : List Value} (h : On w e size (.slice (some ⟨g, 0, none⟩) n cap) n xs) (k : Nat) : Src w (some ⟨g, k * size, none⟩) (n - k) (xs.drop (k * size)) := by
  refine .inr ⟨_, rfl, fun j u hu => ?_⟩
  rcases h.form with ⟨hv, _⟩ | ⟨g', cap', hv, _, _, _, _, hc, _⟩
  · cases hv
  · cases hv
    have hadd : (⟨g, k * size, none⟩ : Addr).add j = ⟨g, k * size + j, none⟩ := by unfold Addr.add; split <;> simp_all
    rw [hadd]
    exact hc _ u (by rw [← hu, List.getElem?_drop])
/-- The source is a block just laid. -/
theorem src_new (w : World) (e : TypeId) (size : Nat) (cs : List Value) : Src (w.alloc (.cells cs.toArray e)) (some ⟨w.heap.size, 0, none⟩) size cs := by
  refine .inr ⟨_, rfl, fun j u hu => ?_⟩
  have hadd : (⟨w.heap.size, 0, none⟩ : Addr).add j = ⟨w.heap.size, j, none⟩ := by unfold Addr.add; split <;> simp_all
  rw [hadd, (Blk.new w e cs.toArray).cell j]
  simpa using hu
end Go.Proofs.Ytlhoffhagfhbcaa
namespace Go.Proofs.Ytlhoffhagfhbcaa.Byt
open Go.RowKit
set_option linter.all false

def be4 (z : Int) : List Int := [z / 16777216 % 256, z / 65536 % 256, z / 256 % 256, z % 256]
def be8 (z : Int) : List Int := be4 (z / 4294967296) ++ be4 z
def ub (l : List Int) : List Value := l.map (Value.int .u8)
theorem ub_len (l : List Int) : (ub l).length = l.length := by simp [ub]
theorem ub_app (l m : List Int) : ub (l ++ m) = ub l ++ ub m := by simp [ub]
theorem ub_one (l : List Int) : ∀ u ∈ ub l, u.oneCell' = true := one_map .u8 l
/-- Bytes in a slice. -/
def Out (w : World) (v : Value) (xs : List Int) : Prop := On w 5 1 v xs.length (ub xs)
theorem Out.nil (w : World) : Out w (.slice none 0 0) [] := On.nil _ _ _
theorem Out.below' {w w' : World} {v : Value} {xs : List Int} (h : Out w v xs) (hb : Below w.heap.size w w') : Out w' v xs := On.below h hb (On.lt h)
abbrev OwnB (v : Value) : Nat → Prop := fun k => v.ownBlock = some k
/-- What a function that puts bytes hands back. -/
def Puts (w : World) (v : Value) (xs : List Int) (e : Ending) (w' : World) : Prop := ∃ v', e = .returned v' ∧ Out w' v' xs ∧ Touch (OwnB v) w w' ∧ (∀ g, v'.ownBlock = some g → v.ownBlock = some g ∨ w.heap.size ≤ g)
theorem be4_wrap (z : Int) : be4 (IntKind.u32.wrap z) = be4 z := by
  simp only [be4, IntKind.wrap, IntKind.bits, IntKind.signed]
  simp
  omega
theorem be8_wrap (z : Int) : be8 (IntKind.u64.wrap z) = be8 z := by
  simp only [be8, be4, IntKind.wrap, IntKind.bits, IntKind.signed]
  simp
  omega
theorem info8 : (Try.prog.info? 5).map (fun i => (i.zero, i.size, i.bytes)) = some (some (.int .u8 0), 1, 1) := by kernel_rfl

set_option maxRecDepth 100000 in
set_option maxHeartbeats 2000000 in
theorem put32_any (w : World) (v : Value) (xs : List Int) (z : Int) (h : Out w v xs) (hl : xs.length ≤ 1000000) (h0 : 0 ≤ z) (h1 : z < 4294967296) :
    Calls Try.prog 68 #[v, .int .u32 z] w (Puts w v (xs ++ be4 z)) := by
  obtain ⟨i0, hi, hz0, hz1, hz2⟩ := info_parts info8
  have w1 : IntKind.u8.wrap (z / 16777216) = z / 16777216 % 256 := by simp [IntKind.wrap, IntKind.bits, IntKind.signed]
  have w2 : IntKind.u8.wrap (z / 65536) = z / 65536 % 256 := by simp [IntKind.wrap, IntKind.bits, IntKind.signed]
  have w3 : IntKind.u8.wrap (z / 256) = z / 256 % 256 := by simp [IntKind.wrap, IntKind.bits, IntKind.signed]
  have w4 : IntKind.u8.wrap z = z % 256 := by simp [IntKind.wrap, IntKind.bits, IntKind.signed]
  have fin : ∀ (u v' : Value) (w' : World), u.ownBlock = v.ownBlock → On w' 5 1 v' (xs.length + 4) (ub xs ++ ub (be4 z)) → (w.alloc (.cells #[.int .u8 (z / 16777216 % 256), .int .u8 (z / 65536 % 256), .int .u8 (z / 256 % 256), .int .u8 (z % 256)] 5)).grownBy w' u.ownBlock → (v'.ownBlock = u.ownBlock ∨ v'.ownBlock = some (w.alloc (.cells #[.int .u8 (z / 16777216 % 256), .int .u8 (z / 65536 % 256), .int .u8 (z / 256 % 256), .int .u8 (z % 256)] 5)).heap.size) →
      Puts w v (xs ++ be4 z) (.returned v') w' := by
    intro u v' w' hu hon hg how
    refine ⟨v', rfl, ?_, ?_, ?_⟩
    · unfold Out; rw [List.length_append, ub_app]; exact hon
    · exact ((Touch.refl _ _).alloc _).grown hg (fun k hk => .inl (by show v.ownBlock = some k; rw [← hu]; exact hk))
    · intro g hgv
      rcases how with e | e
      · exact .inl (by rw [← hu, ← e]; exact hgv)
      · rw [e] at hgv; cases hgv; exact .inr (by simp)
  have HFin := Lib.hid fin
  clear fin
  rcases h.form with ⟨rfl, hn, hx⟩ | ⟨g, cap, rfl, hnc, hcm, how, hgl, hcell, hfr⟩
  · have hxs : xs = [] := List.eq_nil_of_length_eq_zero hn
    subst hxs
    clear hn hx
    have X := Lib.hid (show Out (w.alloc (.cells #[.int .u8 (z / 16777216 % 256), .int .u8 (z / 65536 % 256), .int .u8 (z / 256 % 256), .int .u8 (z % 256)] 5)) (.slice none 0 0) [] from Out.nil _)
    clear h
    go_enter Try.func68, Try.ntmps68
    go_wp2_with (at_builtin; refine wpList_append_on _ (by rfl) _ _ 61 (by rfl) 5 i0 _ 1 1 Try.underlying61 hi hz0 hz1 hz2 (by rfl) (by omega) (.slice none 0 0) 0 [] (by rfl) X.out (some ⟨w.heap.size, 0, none⟩) 4 4 (ub (be4 z)) (by rfl) (by rfl) (src_new w 5 4 (ub (be4 z))) (ub_one _) (by simp only [maxLen]; omega) (by omega) ?_; intro v' w' hon hg hv')
    go_ret
    exact HFin.out _ _ _ rfl hon hg hv'
  · have hcut := On.cut h (k := xs.length) (Nat.le_refl _)
    have e1 : (ub xs).take (xs.length * 1) = ub xs := by rw [Nat.mul_one, ← ub_len xs, List.take_length]
    rw [e1] at hcut
    have X := hcut.alloc (.cells #[.int .u8 (z / 16777216 % 256), .int .u8 (z / 65536 % 256), .int .u8 (z / 256 % 256), .int .u8 (z % 256)] 5)
    have l1 : (xs.length : Int) ≤ (cap : Int) := by omega
    have l0 : (0 : Int) ≤ (xs.length : Int) := by omega
    obtain ⟨n, hn⟩ : ∃ n, n = xs.length := ⟨_, rfl⟩
    have HL := Lib.hid hn
    rw [← hn] at l1 l0 X
    have hcm' : cap ≤ 9223372036854775807 := by simp only [maxLen] at hcm; omega
    have hn2 : n ≤ 1000000 := by omega
    rw [← hn]
    have X3 := Lib.hid X
    clear h hcut e1 hcell hfr hnc hl hn X
    go_enter Try.func68, Try.ntmps68
    go_wp2_with (at_builtin; refine wpList_append_on _ (by rfl) _ _ 61 (by rfl) 5 i0 _ 1 1 Try.underlying61 hi hz0 hz1 hz2 (by rfl) (by omega) (.slice (some ⟨g, 0, none⟩) n n) n (ub xs) (by rfl) X3.out (some ⟨w.heap.size, 0, none⟩) 4 4 (ub (be4 z)) (by rfl) (by rfl) (src_new w 5 4 (ub (be4 z))) (ub_one _) (by simp only [maxLen]; omega) (by omega) ?_; intro v' w' hon hg hv')
    go_ret
    have HF := HFin.out (.slice (some ⟨g, 0, none⟩) n n) _ _ (by rfl) (by rw [← HL.out]; exact hon) hg hv'
    rw [← HL.out] at HF
    exact HF

set_option maxRecDepth 100000 in
set_option maxHeartbeats 2000000 in
theorem put64_any (w : World) (v : Value) (xs : List Int) (z : Int) (h : Out w v xs) (hl : xs.length ≤ 900000) (h0 : 0 ≤ z) (h1 : z < 18446744073709551616) :
    Calls Try.prog 69 #[v, .int .u64 z] w (Puts w v (xs ++ be8 z)) := by
  have w1 : IntKind.u32.wrap (z / 4294967296) = z / 4294967296 := IntWalk.u32_in _ (by omega)
  have p1 := Lib.hid (put32_any w v xs (z / 4294967296) h (by omega) (by omega) (by omega))
  have hw2 : 0 ≤ IntKind.u32.wrap z ∧ IntKind.u32.wrap z < 4294967296 := by simp [IntKind.wrap, IntKind.bits, IntKind.signed]; omega
  have HE := Lib.hid (be4_wrap z)
  have HL := Lib.hid hl
  obtain ⟨y, hy⟩ : ∃ y, y = IntKind.u32.wrap z := ⟨_, rfl⟩
  have hy' := hy.symm
  rw [hy'] at HE hw2
  obtain ⟨x, hx⟩ : ∃ x, x = z / 4294967296 := ⟨_, rfl⟩
  have HX := Lib.hid hx
  have hx' := hx.symm
  rw [hx'] at p1 w1
  clear h hl hx hy
  go_enter Try.func69, Try.ntmps69
  go_wp2_with fail
  refine p1.out.mono ?_
  rintro e w1' ⟨v1, rfl, o1, t1, g1⟩
  have p2 := Lib.hid (put32_any w1' v1 (xs ++ be4 x) y o1 (by have := HL.out; rw [List.length_append]; simp [be4]; omega) hw2.1 hw2.2)
  clear p1 o1
  go_wp2_with fail
  refine p2.out.mono ?_
  rintro e w2' ⟨v2, rfl, o2, t2, g2⟩
  go_wp2_with fail
  go_ret
  have hs := t1.size
  refine ⟨v2, rfl, ?_, t1.trans t2 (fun k hk => g1 k hk), fun g hg => ?_⟩
  · have e : xs ++ be8 z = xs ++ be4 x ++ be4 y := by rw [HE.out, HX.out, List.append_assoc]; rfl
    rw [e]
    exact o2
  · rcases g2 g hg with e | e
    · exact g1 g e
    · exact .inr (by omega)
end Go.Proofs.Ytlhoffhagfhbcaa.Byt
namespace Go.Proofs.Ytlhoffhagfhbcaa.Dif
open Go.RowKit Go.Proofs.Ytlhoffhagfhbcaa.Byt
set_option linter.all false

theorem ret_str {a b : ByteArray} (h : a = b) : Ending.returned (.string a) = .returned (.string b) := by rw [h]
/-- The digits of a number, the last one first; 0 has none. -/
def dgz (m : Nat) : List Int := if h : m = 0 then [] else ((48 + m % 10 : Nat) : Int) :: dgz (m / 10)
termination_by m
decreasing_by omega
def dg (m : Nat) : List Int := if m = 0 then [48] else dgz m
theorem dgz_zero : dgz 0 = [] := by unfold dgz; simp
theorem dgz_cons {m : Nat} (h : m ≠ 0) : dgz m = ((48 + m % 10 : Nat) : Int) :: dgz (m / 10) := by rw [dgz]; simp [h]
theorem dg_pos {m : Nat} (h : m ≠ 0) : dg m = dgz m := by simp [dg, h]
theorem dg_step {m : Nat} (h : m / 10 ≠ 0) : dg m = ((48 + m % 10 : Nat) : Int) :: dg (m / 10) := by
  rw [dg_pos (by omega), dg_pos h, dgz_cons (by omega)]
theorem dg_last {m : Nat} (h : m / 10 = 0) : dg m = [((48 + m % 10 : Nat) : Int)] := by
  by_cases h0 : m = 0
  · subst h0; rfl
  · rw [dg_pos h0, dgz_cons h0, h, dgz_zero]
theorem dgz_len : ∀ (k m : Nat), m < 10 ^ k → (dgz m).length ≤ k
  | 0, m, h => by obtain rfl : m = 0 := by simpa using h
                  simp [dgz_zero]
  | k + 1, m, h => by
    by_cases h0 : m = 0
    · subst h0; simp [dgz_zero]
    · rw [dgz_cons h0, List.length_cons]
      have := dgz_len k (m / 10) (by rw [Nat.pow_succ] at h; omega)
      omega
/-- The text of a number. -/
def numL (n : Int) : List Int := (if n < 0 then [45] else []) ++ (dg n.natAbs).reverse
def numS (n : Int) : ByteArray := strOfNums (numL n)
theorem str_app (xs ys : List Int) : strOfNums xs ++ strOfNums ys = strOfNums (xs ++ ys) := by
  apply ByteArray.ext
  apply Array.toList_inj.1
  simp [strOfNums_data]
theorem str_minus : ({ data := #[45] } : ByteArray) = strOfNums [45] := rfl
theorem num_neg {n : Int} (h : n < 0) : ({ data := #[45] } : ByteArray) ++ strOfNums (dg n.natAbs).reverse = numS n := by rw [str_minus, str_app, numS, numL, if_pos h]
theorem dg_len {m : Nat} (h : m ≤ 9223372036854775808) : (dg m).length ≤ 19 := by
  by_cases h0 : m = 0
  · subst h0; decide
  · rw [dg_pos h0]
    exact dgz_len 19 m (by omega)
theorem numS_size {n : Int} (h0 : -9223372036854775808 ≤ n) (h1 : n ≤ 9223372036854775807) : (numS n).size ≤ 20 := by
  have := dg_len (m := n.natAbs) (by omega)
  rw [numS, strOfNums_size, numL, List.length_append, List.length_reverse]
  split <;> simp <;> omega
theorem num_pos {n : Int} (h : ¬ n < 0) : strOfNums (dg n.natAbs).reverse = numS n := by rw [numS, numL, if_neg h, List.nil_append]
theorem tmod_abs (m : Int) : (if m.tmod 10 < 0 then -(m.tmod 10) else m.tmod 10) = ((m.natAbs % 10 : Nat) : Int) := by
  rcases Int.le_total 0 m with h | h
  · obtain ⟨k, rfl⟩ := Int.eq_ofNat_of_zero_le h
    rw [show ((k : Nat) : Int).tmod 10 = ((k % 10 : Nat) : Int) from rfl]
    split <;> omega
  · obtain ⟨k, hk⟩ := Int.eq_ofNat_of_zero_le (show 0 ≤ -m by omega)
    obtain rfl : m = -(k : Int) := by omega
    rw [Int.neg_tmod, show ((k : Nat) : Int).tmod 10 = ((k % 10 : Nat) : Int) from rfl]
    split <;> omega
theorem tdiv_abs (m : Int) : (m.tdiv 10).natAbs = m.natAbs / 10 := by
  rw [Int.natAbs_tdiv]; rfl
/-- A one-byte slice turned into text. -/
theorem conv1 (w : World) (d : Int) : (convert 61 9 (.slice (some ⟨w.heap.size, 0, none⟩) 1 1)).run Try.prog (w.alloc (.cells #[.int .u8 d] 5)) = .ok (.string (strOfNums [d])) (w.alloc (.cells #[.int .u8 d] 5)) :=
  run_convert_bytes_arg (P := Try.prog) (w.alloc (.cells #[.int .u8 d] 5)) 61 5 Try.underlying61 Try.underlying5 w.heap.size 0 1 1 [d] rfl
    (fun i hi => by
      obtain rfl : i = 0 := by omega
      exact (Blk.new w 5 #[.int .u8 d]).cell 0) 9 Try.underlying9

set_option maxRecDepth 100000 in
set_option maxHeartbeats 4000000 in
theorem rnum_any (w : World) (n : Int) (h0 : -9223372036854775808 ≤ n) (h1 : n ≤ 9223372036854775807) :
    Calls Try.prog 60 #[.int .i64 n] w fun e w' => e = .returned (.string (numS n)) ∧ Below w.heap.size w w' := by
  go_enter Try.func60, Try.ntmps60
  go_wp2_with fail
  go_loopw [3, 4, 5] (fun sv mv xv wr => ∃ (m : Int) (ds : List Int), sv = .string (strOfNums ds.reverse) ∧ mv = .int .i64 m ∧ ds ++ dg m.natAbs = dg n.natAbs ∧ (-9223372036854775808 ≤ m ∧ m ≤ 9223372036854775807) ∧ Below w.heap.size w wr) (fun _ mv _ _ => (intOf mv).natAbs)
  case atStart => exact ⟨n, [], rfl, rfl, rfl, ⟨h0, h1⟩, Below.refl _ _⟩
  case round =>
    obtain ⟨m, ds, rfl, rfl, hd, hm, hb⟩ := hrel
    have ha := tmod_abs m
    have hq := tdiv_abs m
    have hqr : -9223372036854775808 ≤ m.tdiv 10 ∧ m.tdiv 10 ≤ 9223372036854775807 := by omega
    have hd10 : m.natAbs % 10 < 10 := Nat.mod_lt _ (by decide)
    have hdl : m.natAbs / 10 = 0 → ds ++ [((48 + m.natAbs % 10 : Nat) : Int)] = dg n.natAbs := fun h => by rw [← dg_last h]; exact hd
    have hds : m.natAbs / 10 ≠ 0 → (ds ++ [((48 + m.natAbs % 10 : Nat) : Int)]) ++ dg (m.natAbs / 10) = dg n.natAbs := fun h => by rw [List.append_assoc, List.singleton_append, ← dg_step h]; exact hd
    have hmq : m.natAbs / 10 ≠ 0 → m.natAbs / 10 < m.natAbs := fun h => by omega
    rw [← hq] at hdl hds hmq
    have hlen := dg_len (m := n.natAbs) (by omega)
    have hdsl : ds.length ≤ 19 := by rw [← hd, List.length_append] at hlen; omega
    clear hd hq hlen
    obtain ⟨d, hdd⟩ : ∃ d : Int, d = ((m.natAbs % 10 : Nat) : Int) := ⟨_, rfl⟩
    rw [← hdd] at ha
    rw [show ((48 + m.natAbs % 10 : Nat) : Int) = 48 + d by omega] at hdl hds
    have hd0 : 0 ≤ d ∧ d < 10 := by omega
    clear hdd hd10
    have HMQ := Lib.hid hmq
    clear hmq
    generalize hN : m.natAbs = M at *
    generalize hT : m.tmod 10 = t at *
    generalize hQ : m.tdiv 10 = q at *
    have X := conv1 wr (48 + d)
    obtain ⟨S, hS⟩ : ∃ S, S = strOfNums (ds ++ [48 + d]).reverse := ⟨_, rfl⟩
    have hs : strOfNums [48 + d] ++ strOfNums ds.reverse = S := by rw [str_app, hS]; simp
    have hl1 : ¬ 9223372036854775807 < (strOfNums [48 + d]).size + (strOfNums ds.reverse).size := by rw [strOfNums_size, strOfNums_size, List.length_reverse]; simp; omega
    have hl2 : ¬ 9223372036854775807 < 1 + S.size := by rw [hS, strOfNums_size, List.length_reverse]; simp; omega
    have HB := Lib.hid (show Below w.heap.size w (wr.alloc (.cells #[.int .u8 (48 + d)] 5)) from hb.alloc hb.size _)
    have HNEG := Lib.hid (show q = 0 → n < 0 → ({ data := #[45] } : ByteArray) ++ S = numS n from fun h hn => by subst h; rw [hS, hdl rfl, num_neg hn])
    have HPOS := Lib.hid (show q = 0 → ¬ n < 0 → S = numS n from fun h hn => by subst h; rw [hS, hdl rfl, num_pos hn])
    have HS := Lib.hid hS
    have HDS := Lib.hid hds
    clear hds hdl hS hb
    by_cases ht : t < 0
    · rw [if_pos ht] at ha
      have hw : wrap64 (-t) = d := by simp only [wrap64]; omega
      clear ha
      by_cases hq0 : q = 0
      · by_cases hn : n < 0
        · go_wp2_with fail
          go_ret
          exact ⟨ret_str (HNEG.out hq0 hn), HB.out⟩
        · go_wp2_with fail
          go_ret
          exact ⟨ret_str (HPOS.out hq0 hn), HB.out⟩
      · go_wp2_with fail
        go_roundw
        case rel => exact ⟨q, ds ++ [48 + d], by rw [← HS.out], rfl, HDS.out (by omega), hqr, HB.out⟩
        case measure => have := HMQ.out (by omega); simp [intOf]; omega
    · have ht' : 0 ≤ t := by omega
      rw [if_neg ht] at ha
      subst ha
      by_cases hq0 : q = 0
      · by_cases hn : n < 0
        · go_wp2_with fail
          go_ret
          exact ⟨ret_str (HNEG.out hq0 hn), HB.out⟩
        · go_wp2_with fail
          go_ret
          exact ⟨ret_str (HPOS.out hq0 hn), HB.out⟩
      · go_wp2_with fail
        go_roundw
        case rel => exact ⟨q, ds ++ [48 + t], by rw [← HS.out], rfl, HDS.out (by omega), hqr, HB.out⟩
        case measure => have := HMQ.out (by omega); simp [intOf]; omega
end Go.Proofs.Ytlhoffhagfhbcaa.Dif
namespace Go.Proofs.Ytlhoffhagfhbcaa.Dif
open Go.RowKit Go.Proofs.Ytlhoffhagfhbcaa.Byt
set_option linter.all false

/-- Bytes in a slice that was made since. -/
structure Mk (w : World) (v : Value) (xs : List Int) (W : World) : Prop where
  out : Out W v xs
  below : Below w.heap.size w W
  own : ∀ g, v.ownBlock = some g → w.heap.size ≤ g
theorem Mk.nil (w : World) : Mk w (.slice none 0 0) [] w := ⟨Out.nil _, Below.refl _ _, fun k hk => by simp [Value.ownBlock] at hk⟩
theorem Mk.app {w W W' : World} {v v' : Value} {xs : List Int} {x : Int} (h : Mk w v xs W) (hon : On W' 5 1 v' (xs.length + 1) (ub xs ++ ub [x])) (hg : (W.alloc (.cells #[.int .u8 x] 5)).grownBy W' v.ownBlock)
    (hv : v'.ownBlock = v.ownBlock ∨ v'.ownBlock = some (W.alloc (.cells #[.int .u8 x] 5)).heap.size) : Mk w v' (xs ++ [x]) W' := by
  have ht : Touch (OwnB v) W W' := ((Touch.refl _ _).alloc _).grown hg (fun k hk => .inl hk)
  refine ⟨?_, h.below.trans (ht.below h.below.size (fun k hk => h.own k hk)), fun g hg' => ?_⟩
  · unfold Out
    rw [List.length_append, ub_app]
    exact hon
  · rcases hv with e | e
    · exact h.own g (by rw [← e]; exact hg')
    · rw [e] at hg'; cases hg'; have := h.below.size; simp; omega
theorem Mk.src (w : World) (x : Int) : Src (w.alloc (.cells #[.int .u8 x] 5)) (some ⟨w.heap.size, 0, none⟩) 1 (ub [x]) := by
  refine .inr ⟨_, rfl, fun j u hu => ?_⟩
  match j with
  | 0 => simp [ub] at hu; subst hu; exact (Blk.new w 5 #[.int .u8 x]).cell 0
  | j + 1 => simp [ub] at hu

theorem Mk.store {w W : World} {g c n : Nat} {xs : List Int} (h : Mk w (.slice (some ⟨g, 0, none⟩) n c) xs W) (hn : n = xs.length) (k : Nat) (x : Int) : Mk w (.slice (some ⟨g, 0, none⟩) n c) (xs.set k x) (W.setCell ⟨g, k, none⟩ (.int .u8 x)) := by
  subst hn
  refine ⟨?_, h.below.setCell (h.own g rfl) _, h.own⟩
  have := On.store h.out k (.int .u8 x)
  unfold Out
  rw [List.length_set, show ub (xs.set k x) = (ub xs).set k (.int .u8 x) from by simp [ub, List.map_set]]
  exact this
theorem ub_nth {ys : List Int} {j : Nat} (h : j < ys.length) : (ub ys)[j]? = some (.int .u8 (nth ys j)) := by simp [ub, nth, List.getD, h]
theorem Mk.drewN {w W : World} {v : Value} {xs : List Int} (h : Mk w v xs W) (n : Nat) : Mk w v xs (W.drewN n) := ⟨h.out, below_drewN h.below n, h.own⟩
/-- A list that is turned round from both ends, i of each. -/
def Rv (xs ys : List Int) (i : Nat) : Prop := ys.length = xs.length ∧ ∀ j, j < xs.length → nth ys j = if j < i ∨ xs.length < j + i + 1 then nth xs (xs.length - 1 - j) else nth xs j
theorem Rv.zero (xs : List Int) : Rv xs xs 0 := ⟨rfl, fun j hj => by rw [if_neg (by omega)]⟩
theorem nth_set_eq {l : List Int} {k : Nat} (h : k < l.length) (x : Int) : nth (l.set k x) k = x := by simp [nth, List.getD, h]
theorem nth_set_ne {l : List Int} {k j : Nat} (h : k ≠ j) (x : Int) : nth (l.set k x) j = nth l j := by simp [nth, List.getD, List.getElem?_set, h]
theorem Rv.step {xs ys : List Int} {i k : Nat} (h : Rv xs ys i) (hk : i + k + 1 = xs.length) (hlt : i < k) : Rv xs ((ys.set i (nth ys k)).set k (nth ys i)) (i + 1) := by
  refine ⟨by simp [h.1], fun j hj => ?_⟩
  by_cases e1 : j = k
  · subst e1
    rw [nth_set_eq (by simp [h.1]; omega), h.2 i (by omega), if_neg (by omega), if_pos (by omega)]
    congr 1; omega
  · rw [nth_set_ne (fun e => e1 e.symm)]
    by_cases e2 : j = i
    · subst e2
      rw [nth_set_eq (by rw [h.1]; omega), h.2 k (by omega), if_neg (by omega), if_pos (by omega)]
      congr 1; omega
    · rw [nth_set_ne (fun e => e2 e.symm), h.2 j hj]
      by_cases hc : j < i ∨ xs.length < j + i + 1
      · rw [if_pos hc, if_pos (by omega)]
      · rw [if_neg hc, if_neg (by omega)]
theorem Rv.all {xs ys : List Int} {i k : Nat} (h : Rv xs ys i) (hk : i + k + 1 = xs.length) (hge : k ≤ i) : ys = xs.reverse := by
  apply List.ext_getElem (by rw [h.1, List.length_reverse])
  intro j h1 h2
  have hj : j < xs.length := by rw [← h.1]; exact h1
  have e := h.2 j hj
  have g1 : nth ys j = ys[j] := by simp [nth, List.getD, h1]
  have g2 : ∀ q (hq : q < xs.length), nth xs q = xs[q] := fun q hq => by simp [nth, List.getD, hq]
  rw [List.getElem_reverse, ← g1, e]
  split
  · exact g2 _ (by omega)
  · rw [g2 j hj]; congr 1; omega
theorem conv_row {w : World} {b n cap : Nat} {xs : List Int} (h : On w 5 1 (.slice (some ⟨b, 0, none⟩) n cap) n (ub xs)) : (convert 61 9 (.slice (some ⟨b, 0, none⟩) n cap)).run Try.prog w = .ok (.string (strOfNums xs)) w := by
  have hl : xs.length = n := by have := h.1; rw [ub_len] at this; omega
  refine run_convert_bytes_arg (P := Try.prog) w 61 5 Try.underlying61 Try.underlying5 b 0 n cap xs hl (fun i hi => ?_) 9 Try.underlying9
  rcases On.form h with ⟨hv, _⟩ | ⟨g', cap', hv, _, _, _, _, hc, _⟩
  · cases hv
  · cases hv
    rw [Nat.zero_add]
    exact hc i _ (by simp [ub, List.getD, hl, hi])

set_option maxRecDepth 100000 in
set_option maxHeartbeats 4000000 in
theorem num_any (w : World) (n : Int) (h0 : -9223372036854775808 ≤ n) (h1 : n ≤ 9223372036854775807) :
    Calls Try.prog 56 #[.int .i64 n] w fun e w' => e = .returned (.string (numS n)) ∧ Below w.heap.size w w' := by
  obtain ⟨i0, hi, hz0, hz1, hz2⟩ := info_parts info8
  by_cases hn0 : n = 0
  · subst hn0
    go_enter Try.func56, Try.ntmps56
    go_wp2_with fail
    go_ret
    exact ⟨ret_str rfl, Below.refl _ _⟩
  · go_enter Try.func56, Try.ntmps56
    go_wp2_with fail
    rw [show (n == 0) = false from by simpa using hn0]
    go_loopw [3, 4] (fun sv mv wr => ∃ (m : Int) (ds : List Int), mv = .int .i64 m ∧ ds ++ dgz m.natAbs = dgz n.natAbs ∧ (-9223372036854775808 ≤ m ∧ m ≤ 9223372036854775807) ∧ Mk w sv ds wr) (fun _ mv _ => (intOf mv).natAbs)
    case atStart => exact ⟨n, [], rfl, rfl, ⟨h0, h1⟩, Mk.nil w⟩
    case round =>
      obtain ⟨m, ds, rfl, hd, hm, hb⟩ := hrel
      have hlen := dgz_len 19 n.natAbs (by omega)
      have hdsl : ds.length ≤ 19 := by rw [← hd, List.length_append] at hlen; omega
      clear hlen
      by_cases hm0 : m = 0
      · subst hm0
        rw [show (0 : Int).natAbs = 0 from rfl, dgz_zero, List.append_nil] at hd
        have hp := dgz_cons (m := n.natAbs) (by omega)
        have hpos : 0 < ds.length := by rw [hd, hp]; simp
        have HD := Lib.hid (show ds = dg n.natAbs by rw [dg_pos (by omega)]; exact hd)
        clear hd hp
        obtain ⟨a, c, rfl, hc1, hc2⟩ := On.slice hb.out
        have X := Lib.hid (On.alloc hb.out (.cells #[.int .u8 45] 5))
        have HB := Lib.hid hb
        clear hb
        go_upto_if 26 with fail
        go_cut [3] (fun sv wx => Mk w sv (if n < 0 then ds ++ [45] else ds) wx)
        case first =>
          by_cases hn : n < 0
          · go_wp2_with (at_builtin; refine wpList_append_on _ (by rfl) _ _ 61 (by rfl) 5 i0 _ 1 1 Try.underlying61 hi hz0 hz1 hz2 (by rfl) (by omega) (.slice a ds.length c) ds.length (ub ds) (by rfl) X.out (some ⟨wr.heap.size, 0, none⟩) 1 1 (ub [45]) (by rfl) (by rfl) (Mk.src wr 45) (ub_one _) (by simp only [maxLen]; omega) (by omega) ?_; intro v' w' hon hg hv')
            go_meet
            rw [if_pos hn]
            exact HB.out.app hon hg hv'
          · go_wp2_with fail
            go_meet
            rw [if_neg (by omega)]
            exact HB.out
        case rest =>
          have hxs : (if n < 0 then ds ++ [45] else ds).reverse = numL n := by
            rw [numL, HD.out]
            split <;> simp
          have hL0 : 0 < (if n < 0 then ds ++ [45] else ds).length := by split <;> (try rw [List.length_append]) <;> omega
          have hL1 : (if n < 0 then ds ++ [45] else ds).length ≤ 20 := by split <;> (try rw [List.length_append, List.length_singleton]) <;> omega
          clear HB X HD hc1 hc2 hpos hdsl
          generalize (if n < 0 then ds ++ [45] else ds) = xs at *
          have HX := Lib.hid hxs
          clear hxs
          rcases On.form hcut.out with ⟨rfl, hn, hx⟩ | ⟨g, cap, rfl, hnc, hcm, how, hgl, hcell, hfr⟩
          · omega
          clear hcell hfr
          obtain ⟨L, hL⟩ : ∃ L, L = xs.length := ⟨_, rfl⟩
          rw [← hL] at hL0 hL1 hnc hcut ⊢
          have HC := Lib.hid hcut
          clear hcut
          have hk0 : (L : Int) - 1 = ((L - 1 : Nat) : Int) := by omega
          have HL := Lib.hid hL
          clear hL
          go_wp2_with fail
          go_loopw [5, 6] (fun iv kv wr => ∃ (i k : Nat) (ys : List Int), i + k + 1 = L ∧ iv = .int .i64 (i : Int) ∧ kv = .int .i64 (k : Int) ∧ Rv xs ys i ∧ Mk w (.slice (some ⟨g, 0, none⟩) L cap) ys wr) (fun _ kv _ => (intOf kv).toNat)
          case atStart => exact ⟨0, L - 1, xs, by omega, rfl, rfl, Rv.zero _, HC.out⟩
          case round =>
            obtain ⟨i, k, ys, hik, rfl, rfl, hrv, hmk⟩ := hrel
            have hyl : ys.length = L := by rw [hrv.1, HL.out]
            have ho := hmk.out
            unfold Out at ho
            rw [hyl] at ho
            by_cases hlt : i < k
            · have hlt' : (i : Int) < (k : Int) := by omega
              rcases On.form ho with ⟨hv, _⟩ | ⟨g', cap', hv, _, _, _, _, hc, hfr⟩
              · cases hv
              cases hv
              have c0 := hc i (.int .u8 (nth ys i)) (ub_nth (by rw [hyl]; omega))
              have c1 := hc k (.int .u8 (nth ys k)) (ub_nth (by rw [hyl]; omega))
              have f0 := hfr i
              have f1 := hfr k
              have hkL : (k : Int) < (L : Int) := by omega
              have hiL : (i : Int) < (L : Int) := by omega
              have hk1 : wrap64 ((k : Int) - 1) = ((k - 1 : Nat) : Int) := by simp only [wrap64]; omega
              have HR := Lib.hid (hrv.step (by rw [hik, HL.out]) hlt)
              have HM := Lib.hid ((hmk.store (n := L) hyl.symm i (nth ys k)).store (n := L) (by simp [hyl]) k (nth ys i))
              clear hc hfr hmk hrv
              generalize nth ys i = p at *
              generalize nth ys k = q at *
              go_wp2_with fail
              go_region
              all_goals
                go_wp2_with fail
                go_roundw
                case rel => exact ⟨i + 1, k - 1, _, by omega, by first | rfl | go_num, by rw [show ((k - 1 : Nat) : Int) = (k : Int) - 1 by omega], HR.out, HM.out.drewN 1⟩
                case measure => simp [intOf]; omega
            · have hge : ¬ (i : Int) < (k : Int) := by omega
              have HE := Lib.hid (hrv.all (by rw [hik, HL.out]) (by omega))
              have X := conv_row ho
              rw [HE.out] at X
              have hs : strOfNums xs.reverse = numS n := by rw [HX.out]; rfl
              rw [hs] at X
              have HB := Lib.hid hmk.below
              clear hmk ho hrv
              go_wp2_with fail
              go_ret
              exact ⟨rfl, HB.out⟩
      · have ha := tmod_abs m
        have hq := tdiv_abs m
        have hqr : -9223372036854775808 ≤ m.tdiv 10 ∧ m.tdiv 10 ≤ 9223372036854775807 := by omega
        have hd10 : m.natAbs % 10 < 10 := Nat.mod_lt _ (by decide)
        rw [dgz_cons (m := m.natAbs) (by omega), ← List.singleton_append, ← List.append_assoc, ← hq] at hd
        have HM := Lib.hid (show (m.tdiv 10).natAbs < m.natAbs by omega)
        obtain ⟨d, hdd⟩ : ∃ d : Int, d = ((m.natAbs % 10 : Nat) : Int) := ⟨_, rfl⟩
        rw [← hdd] at ha
        rw [show ((48 + m.natAbs % 10 : Nat) : Int) = 48 + d by omega] at hd
        have hd0 : 0 ≤ d ∧ d < 10 := by omega
        have HD := Lib.hid hd
        clear hdd hd10 hq hd
        obtain ⟨a, c, rfl, hc1, hc2⟩ := On.slice hb.out
        have X := Lib.hid (On.alloc hb.out (.cells #[.int .u8 (48 + d)] 5))
        have HB := Lib.hid hb
        clear hb
        generalize hN : m.natAbs = M at *
        generalize hT : m.tmod 10 = t at *
        generalize hQ : m.tdiv 10 = q at *
        have hmx : (if t < wrap64 (-t) then wrap64 (-t) else t) = d := by
          simp only [wrap64]
          split at ha <;> split <;> omega
        clear ha
        go_wp2_with (at_builtin; refine wpList_append_on _ (by rfl) _ _ 61 (by rfl) 5 i0 _ 1 1 Try.underlying61 hi hz0 hz1 hz2 (by rfl) (by omega) (.slice a ds.length c) ds.length (ub ds) (by rfl) X.out (some ⟨wr.heap.size, 0, none⟩) 1 1 (ub [48 + d]) (by rfl) (by rfl) (Mk.src wr (48 + d)) (ub_one _) (by simp only [maxLen]; omega) (by omega) ?_; intro v' w' hon hg hv')
        go_roundw
        case rel => exact ⟨q, ds ++ [48 + d], rfl, HD.out, hqr, HB.out.app hon hg hv'⟩
        case measure => have := HM.out; simp [intOf]; omega
end Go.Proofs.Ytlhoffhagfhbcaa.Dif
