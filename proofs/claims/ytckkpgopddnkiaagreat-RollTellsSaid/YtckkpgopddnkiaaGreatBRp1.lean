/-
  Texts joined: Kit, RingInput, RingInputB, RingInputC. No condition.
-/
import Derived.WalkKit
import Derived.WalkSpells
import Derived.WalkLawsBesides
import Derived.BigQuiet
import Derived.Deep.QuietTactic
import Derived.Deep.RegionHeld3
import Derived.Deep.RegionLaw
import Derived.Deep.DeepCutAuto
import Derived.Deep.LoopGhost
import Derived.Deep.AppendLies
import Derived.Deep.Draws
import Derived.Lib.Hide
import Derived.KernelRfl
import Derived.Test.YtckkpgopddnkiaaGreatProg
namespace Go.Proofs.YtckkpgopddnkiaaGreat
open Go.RowKit

theorem ret_bool {a b : Bool} (h : a = b) : Ending.returned (.bool a) = .returned (.bool b) := by rw [h]
theorem ret_int {k : IntKind} {a b : Int} (h : a = b) : Ending.returned (.int k a) = .returned (.int k b) := by rw [h]
theorem ret_val {a b : Value} (h : a = b) : Ending.returned a = .returned b := by rw [h]
theorem below_drewN {B : Nat} {a w : World} (h : Below B a w) (n : Nat) : Below B a (w.drewN n) := ⟨h.os, h.tape, h.output, h.size, h.block⟩
theorem bcell {W w1 : World} (hb : Below W.heap.size W w1) : (∀ b o, b < W.heap.size → w1.cell? ⟨b, o, none⟩ = W.cell? ⟨b, o, none⟩) ∧ (∀ b o, b < W.heap.size → w1.frozen? ⟨b, o, none⟩ = W.frozen? ⟨b, o, none⟩) :=
  ⟨fun b o h => hb.cell (p := ⟨b, o, none⟩) h, fun b o h => hb.frozen (p := ⟨b, o, none⟩) h⟩
theorem heap_new (w : World) (o : Obj) : (w.alloc o).heap[w.heap.size]? = some o := by
  show (w.heap.push o)[w.heap.size]? = some o
  simp
theorem heap_old (w : World) (o : Obj) {k : Nat} (h : k < w.heap.size) : (w.alloc o).heap[k]? = w.heap[k]? := Below.heap_alloc w o k h
theorem lt_of_heap {w : World} {k : Nat} {o : Obj} (h : w.heap[k]? = some o) : k < w.heap.size := (Array.getElem?_eq_some_iff.1 h).1

/-- The j-th of a list of numbers: a word that the walk doesn't look into. -/
def nth (l : List Int) (j : Nat) : Int := l.getD j 0

/-! ### Which blocks may have turned -/
structure Touch (S : Nat → Prop) (w w' : World) : Prop where
  os : w'.os = w.os
  tape : w'.tape = w.tape
  output : w'.output = w.output
  size : w.heap.size ≤ w'.heap.size
  block : ∀ k, k < w.heap.size → ¬ S k → w'.heap[k]? = w.heap[k]?
def noB : Nat → Prop := fun _ => False
section
variable {S S' : Nat → Prop} {a w w' : World}
theorem Touch.refl (S : Nat → Prop) (w : World) : Touch S w w := ⟨rfl, rfl, rfl, Nat.le_refl _, fun _ _ _ => rfl⟩
theorem Touch.trans {w1 w2 : World} (h : Touch S w w1) (h' : Touch S' w1 w2) (hs : ∀ k, S' k → S k ∨ w.heap.size ≤ k) : Touch S w w2 :=
  ⟨h'.os.trans h.os, h'.tape.trans h.tape, h'.output.trans h.output, Nat.le_trans h.size h'.size, fun k hk hn =>
    (h'.block k (Nat.lt_of_lt_of_le hk h.size) (fun hS => (hs k hS).elim hn (fun h1 => absurd hk (by omega)))).trans (h.block k hk hn)⟩
theorem Touch.mono (h : Touch S w w') (hs : ∀ k, S k → S' k ∨ w.heap.size ≤ k) : Touch S' w w' :=
  ⟨h.os, h.tape, h.output, h.size, fun k hk hn => h.block k hk (fun hS => (hs k hS).elim hn (fun h1 => absurd hk (by omega)))⟩
theorem Touch.drew (h : Touch S a w) : Touch S a w.drew := ⟨h.os, h.tape, h.output, h.size, h.block⟩
theorem Touch.drewN (h : Touch S a w) (n : Nat) : Touch S a (w.drewN n) := ⟨h.os, h.tape, h.output, h.size, h.block⟩
theorem Touch.alloc (h : Touch S a w) (o : Obj) : Touch S a (w.alloc o) :=
  ⟨h.os, h.tape, h.output, Nat.le_trans h.size (by simp), fun k hk hn => (heap_old w o (Nat.lt_of_lt_of_le hk h.size)).trans (h.block k hk hn)⟩
theorem Touch.setCell (h : Touch S a w) {p : Addr} (hp : S p.block ∨ a.heap.size ≤ p.block) (u : Value) : Touch S a (w.setCell p u) :=
  ⟨h.os, h.tape, h.output, by simpa [World.setCell] using h.size, fun k hk hn => (Below.heap_setCell w p u k (fun e => by subst e; exact hp.elim hn (fun h1 => absurd hk (by omega)))).trans (h.block k hk hn)⟩
theorem Touch.grown {row : Option Nat} (h : Touch S a w) (hg : w.grownBy w' row) (hr : ∀ k, row = some k → S k ∨ a.heap.size ≤ k) : Touch S a w' :=
  ⟨hg.os.trans h.os, hg.tape.trans h.tape, hg.output.trans h.output, Nat.le_trans h.size hg.size, fun k hk hn =>
    (hg.block k (Nat.lt_of_lt_of_le hk h.size) (fun e => (hr k e.symm).elim hn (fun h1 => absurd hk (by omega)))).trans (h.block k hk hn)⟩
theorem Touch.of_below (h : Below w.heap.size w w') : Touch S w w' := ⟨h.os, h.tape, h.output, h.size, fun k hk _ => h.block k hk⟩
theorem Touch.below {B : Nat} (h : Touch S w w') (hB : B ≤ w.heap.size) (hs : ∀ k, S k → B ≤ k) : Below B w w' :=
  ⟨h.os, h.tape, h.output, h.size, fun k hk => h.block k (by omega) (fun hS => absurd (hs k hS) (by omega))⟩
/-- What lies from B on stays from B on, and below B nothing has turned. -/
theorem Touch.base {B : Nat} (h : Touch S w w') (hF : ∀ k, S' k → S k ∨ w.heap.size ≤ k) (hB : B ≤ w.heap.size) (h0 : ∀ k, S k → B ≤ k) : Below B w w' ∧ (∀ k, S' k → B ≤ k) ∧ B ≤ w'.heap.size :=
  ⟨h.below hB h0, fun k hk => (hF k hk).elim (h0 k) (fun e => Nat.le_trans hB e), Nat.le_trans hB h.size⟩
theorem Touch.cell (h : Touch S w w') {p : Addr} (hk : p.block < w.heap.size) (hn : ¬ S p.block) : w'.cell? p = w.cell? p := World.cell?_of_block (h.block p.block hk hn)
theorem Touch.frozen (h : Touch S w w') {p : Addr} (hk : p.block < w.heap.size) (hn : ¬ S p.block) : w'.frozen? p = w.frozen? p := World.frozen?_of_block (h.block p.block hk hn)
end

/-! ### A block that is known whole -/
def Blk (w : World) (g : Nat) (t : TypeId) (cs : Array Value) : Prop := w.heap[g]? = some (.cells cs t (0, 0))
section
variable {S : Nat → Prop} {w w' : World} {g : Nat} {t : TypeId} {cs : Array Value}
theorem Blk.lt (h : Blk w g t cs) : g < w.heap.size := lt_of_heap h
theorem Blk.cell (h : Blk w g t cs) (i : Nat) : w.cell? ⟨g, i, none⟩ = cs[i]? := cell_of_row w g i cs t (0, 0) h
theorem Blk.frozen (h : Blk w g t cs) (i : Nat) : w.frozen? ⟨g, i, none⟩ = false := by
  unfold Blk at h
  simp [World.frozen?, h]
theorem Blk.new (w : World) (t : TypeId) (cs : Array Value) : Blk (w.alloc (.cells cs t)) w.heap.size t cs := heap_new w _
theorem Blk.drew (h : Blk w g t cs) : Blk w.drew g t cs := h
theorem Blk.drewN (h : Blk w g t cs) (n : Nat) : Blk (w.drewN n) g t cs := h
theorem Blk.alloc (h : Blk w g t cs) (o : Obj) : Blk (w.alloc o) g t cs := (heap_old w o h.lt).trans h
theorem Blk.set_ (h : Blk w g t cs) (i : Nat) (u : Value) : Blk (w.setCell ⟨g, i, none⟩ u) g t (cs.setIfInBounds i u) := by
  unfold Blk at h ⊢
  simp [World.setCell, Array.getElem?_modify, h]
theorem Blk.far (h : Blk w g t cs) {p : Addr} (hp : g ≠ p.block) (u : Value) : Blk (w.setCell p u) g t cs := (Below.heap_setCell w p u g hp).trans h
theorem Blk.below {B : Nat} (h : Blk w g t cs) (hb : Below B w w') (hg : g < B) : Blk w' g t cs := (hb.block g hg).trans h
theorem Blk.touch (h : Blk w g t cs) (hb : Touch S w w') (hg : ¬ S g) : Blk w' g t cs := (hb.block g h.lt hg).trans h
theorem Blk.grown {row : Option Nat} (h : Blk w g t cs) (hb : w.grownBy w' row) (hg : some g ≠ row) : Blk w' g t cs := (hb.block g h.lt hg).trans h
theorem Blk.grown' {row : Option Nat} (hb : w.grownBy w' row) (h : Blk w g t cs) (hg : row ≠ some g) : Blk w' g t cs := h.grown hb (fun e => hg e.symm)
theorem Blk.heap_eq (h : Blk w g t cs) (hW : w'.heap = w.heap) : Blk w' g t cs := by unfold Blk; rw [hW]; exact h
theorem Blk.ne_ {g' : Nat} {t' : TypeId} {cs' : Array Value} (h : Blk w g t cs) (h' : Blk w g' t' cs') (hne : t ≠ t') : g ≠ g' := by
  rintro rfl
  unfold Blk at h h'
  rw [h] at h'
  injection h' with h'
  injection h' with _ ht
  exact hne ht
end

/-! ### A slice at a block's head: its capacity may be below the block's length -/
def On (w : World) (e : TypeId) (size : Nat) (v : Value) (n : Nat) (xs : List Value) : Prop :=
  xs.length = n * size ∧
  ((v = .slice none 0 0 ∧ n = 0) ∨
   ∃ g cap cur, v = .slice (some ⟨g, 0, none⟩) n cap ∧ w.heap[g]? = some (.cells cur e (0, 0)) ∧ n ≤ cap ∧ cap ≤ maxLen ∧ cap * size ≤ cur.size ∧ cur.toList.take (n * size) = xs)
section
variable {S : Nat → Prop} {w w' : World} {e : TypeId} {size : Nat} {v : Value} {n : Nat} {xs : List Value}
theorem On.nil (w : World) (e : TypeId) (size : Nat) : On w e size (.slice none 0 0) 0 [] := ⟨by simp, .inl ⟨rfl, rfl⟩⟩
theorem On.of_heap (h : On w e size v n xs) (hh : ∀ g, v.ownBlock = some g → w'.heap[g]? = w.heap[g]?) : On w' e size v n xs := by
  refine ⟨h.1, ?_⟩
  rcases h.2 with h2 | ⟨g, cap, cur, rfl, hg, r⟩
  · exact .inl h2
  · exact .inr ⟨g, cap, cur, rfl, by rw [hh g (by simp [Value.ownBlock])]; exact hg, r⟩
theorem On.heap_eq (h : On w e size v n xs) (hW : w'.heap = w.heap) : On w' e size v n xs := h.of_heap fun _ _ => by rw [hW]
theorem On.lt (h : On w e size v n xs) : ∀ g, v.ownBlock = some g → g < w.heap.size := by
  intro g hg
  rcases h.2 with ⟨rfl, _⟩ | ⟨g', cap, cur, rfl, hh, _⟩
  · simp [Value.ownBlock] at hg
  · simp [Value.ownBlock] at hg
    subst hg
    exact lt_of_heap hh
theorem On.drew (h : On w e size v n xs) : On w.drew e size v n xs := h
theorem On.drewN (h : On w e size v n xs) (k : Nat) : On (w.drewN k) e size v n xs := h
theorem On.alloc (h : On w e size v n xs) (o : Obj) : On (w.alloc o) e size v n xs := h.of_heap fun g hg => heap_old w o (h.lt g hg)
theorem On.far (h : On w e size v n xs) {p : Addr} (hp : v.ownBlock ≠ some p.block) (u : Value) : On (w.setCell p u) e size v n xs :=
  h.of_heap fun g hg => Below.heap_setCell w p u g (fun e => hp (by rw [hg, e]))
theorem On.below {B : Nat} (h : On w e size v n xs) (hb : Below B w w') (hB : ∀ g, v.ownBlock = some g → g < B) : On w' e size v n xs := h.of_heap fun g hg => hb.block g (hB g hg)
theorem On.touch (h : On w e size v n xs) (hb : Touch S w w') (hS : ∀ g, v.ownBlock = some g → ¬ S g) : On w' e size v n xs := h.of_heap fun g hg => hb.block g (h.lt g hg) (hS g hg)
theorem On.grown {row : Option Nat} (h : On w e size v n xs) (hb : w.grownBy w' row) (hS : v.ownBlock = none ∨ v.ownBlock ≠ row) : On w' e size v n xs :=
  h.of_heap fun g hg => hb.block g (h.lt g hg) (fun e => hS.elim (fun h1 => by rw [hg] at h1; cases h1) (fun h1 => h1 (hg.trans e)))
/-- The value, written out: nil, or a block with its cells. -/
theorem On.form (h : On w e size v n xs) : (v = .slice none 0 0 ∧ n = 0 ∧ xs = []) ∨ ∃ g cap, v = .slice (some ⟨g, 0, none⟩) n cap ∧ n ≤ cap ∧ cap ≤ maxLen ∧ v.ownBlock = some g ∧ g < w.heap.size ∧ (∀ j u, xs[j]? = some u → w.cell? ⟨g, j, none⟩ = some u) ∧ (∀ j, w.frozen? ⟨g, j, none⟩ = false) := by
  have hl := h.1
  rcases h.2 with ⟨rfl, rfl⟩ | ⟨g, cap, cur, rfl, hg, hnc, hcm, hcs, htake⟩
  · exact .inl ⟨rfl, rfl, List.eq_nil_of_length_eq_zero (by simpa using hl)⟩
  · refine .inr ⟨g, cap, rfl, hnc, hcm, rfl, lt_of_heap hg, fun j u hu => ?_, fun j => by simp [World.frozen?, hg]⟩
    rw [cell_of_row w g j cur e (0, 0) hg]
    rw [← htake, List.getElem?_take] at hu
    split at hu
    · simpa using hu
    · cases hu
theorem On.slice (h : On w e size v n xs) : ∃ a c, v = .slice a n c ∧ n ≤ c ∧ c ≤ maxLen := by
  rcases h.2 with ⟨rfl, rfl⟩ | ⟨g, cap, cur, rfl, _, hnc, hcm, _⟩
  · exact ⟨_, _, rfl, Nat.le_refl _, by simp [maxLen]⟩
  · exact ⟨_, _, rfl, hnc, hcm⟩
theorem On.blk_ne {r : Nat} {t : TypeId} {cs : Array Value} (h : On w e size v n xs) (hr : Blk w r t cs) (hne : e ≠ t) : v.ownBlock ≠ some r := by
  rcases h.2 with ⟨rfl, _⟩ | ⟨g, cap, cur, rfl, hg, _⟩
  · simp [Value.ownBlock]
  · intro he
    have : g = r := by simpa [Value.ownBlock] using he
    subst this
    exact Blk.ne_ (t := e) hg hr hne rfl
/-- A cut at the front that keeps the head: 'v[:k:k]', k at most n. -/
theorem On.cut {g cap : Nat} (h : On w e size (.slice (some ⟨g, 0, none⟩) n cap) n xs) {k : Nat} (hk : k ≤ n) : On w e size (.slice (some ⟨g, 0, none⟩) k k) k (xs.take (k * size)) := by
  have hl := h.1
  rcases h.2 with ⟨hv, _⟩ | ⟨g', cap', cur, hv, hg, hnc, hcm, hcs, htake⟩
  · cases hv
  · cases hv
    have hks : k * size ≤ n * size := Nat.mul_le_mul_right _ hk
    have hcs' : k * size ≤ cur.size := Nat.le_trans (Nat.mul_le_mul_right _ (Nat.le_trans hk hnc)) hcs
    refine ⟨by rw [List.length_take, hl]; omega, .inr ⟨g, k, cur, rfl, hg, Nat.le_refl _, by omega, hcs', ?_⟩⟩
    rw [← htake, List.take_take, Nat.min_eq_left hks]
/-- One element stored in place. -/
theorem On.store {g cap : Nat} (h : On w e 1 (.slice (some ⟨g, 0, none⟩) n cap) n xs) (k : Nat) (u : Value) : On (w.setCell ⟨g, k, none⟩ u) e 1 (.slice (some ⟨g, 0, none⟩) n cap) n (xs.set k u) := by
  have hl := h.1
  rcases h.2 with ⟨hv, _⟩ | ⟨g', cap', cur, hv, hg, hnc, hcm, hcs, htake⟩
  · cases hv
  · cases hv
    refine ⟨by rw [List.length_set]; exact hl, .inr ⟨g, cap, cur.setIfInBounds k u, rfl, ?_, hnc, hcm, by simpa using hcs, ?_⟩⟩
    · exact Blk.set_ (t := e) hg k u
    · rw [← htake, Array.toList_setIfInBounds, List.take_set]
end

/-! ### append -/
section
variable {P : Program} (w : World)
theorem run_append_room_on (t ty e : TypeId) (i : TypeInfo) (ht : P.underlying t = some (.slice e)) (hi : P.info? e = some i)
    (g n cap : Nat) (hroom : n ≤ cap) (x : Value) (hx : ∃ A c, x = .slice A 0 c) :
    (Builtin.append_ #[t, t] ty #[.slice (some ⟨g, 0, none⟩) n cap, x]).run P w = .ok (.slice (some ⟨g, 0, none⟩) n cap) w := by
  obtain ⟨A, c, rfl⟩ := hx
  cases A with
  | none => simp [Builtin.append_, run_underlying ht, sizeOf, typeInfo, hi, Builtin.lenOf, Builtin.firstCells, hroom, storeCells]
  | some ad =>
    have hf := run_firstCells_some (P := P) w i.size 0 ad 0 c [] (by simp) (by simp)
    simp [Builtin.append_, run_underlying ht, sizeOf, typeInfo, hi, Builtin.lenOf, hroom, hf, storeCells]

theorem own_le {v v' : Value} {b n : Nat} (h : v'.ownBlock = v.ownBlock ∨ v'.ownBlock = some b) (hb : n ≤ b) : ∀ k, v'.ownBlock = some k → v.ownBlock = some k ∨ n ≤ k := fun k hk =>
  h.elim (fun e => .inl (e ▸ hk)) (fun e => .inr (by rw [e] at hk; cases hk; exact hb))

/-- The source: m elements whose cells are 'news', at an address if there is one. -/
def Src (w : World) (A : Option Addr) (m : Nat) (news : List Value) : Prop := (m = 0 ∧ news = []) ∨ ∃ ad, A = some ad ∧ ∀ j u, news[j]? = some u → w.cell? (ad.add j) = some u

/-- The source is the end of a slice at a block's head. -/
theorem src_drop {w : World} {e : TypeId} {g n cap : Nat} {xs : List Value} (h : On w e 1 (.slice (some ⟨g, 0, none⟩) n cap) n xs) (k : Nat) : Src w (some ⟨g, k, none⟩) (n - k) (xs.drop k) := by
  refine .inr ⟨_, rfl, fun j u hu => ?_⟩
  rcases h.form with ⟨hv, _⟩ | ⟨g', cap', hv, _, _, _, _, hc, _⟩
  · cases hv
  · cases hv
    have hadd : (⟨g, k, none⟩ : Addr).add j = ⟨g, k + j, none⟩ := by unfold Addr.add; split <;> simp_all
    rw [hadd]
    exact hc _ u (by rw [← hu, List.getElem?_drop])
theorem On.src {w : World} {e : TypeId} {size n c : Nat} {A : Option Addr} {xs : List Value} (h : On w e size (.slice A n c) n xs) : Src w A n xs := by
  rcases h.form with ⟨hv, hn, hx⟩ | ⟨g', cap', hv, _, _, _, _, hc, _⟩
  · exact .inl ⟨hn, hx⟩
  · cases hv
    refine .inr ⟨_, rfl, fun j u hu => ?_⟩
    have hadd : (⟨g', 0, none⟩ : Addr).add j = ⟨g', j, none⟩ := by unfold Addr.add; split <;> simp_all
    rw [hadd]
    exact hc _ u hu
/-- A new block of no cells. -/
theorem On.empty (w : World) (e : TypeId) (size : Nat) : On (w.alloc (.cells #[] e)) e size (.slice (some ⟨w.heap.size, 0, none⟩) 0 0) 0 [] :=
  ⟨by simp, .inr ⟨w.heap.size, 0, #[], rfl, heap_new w _, Nat.le_refl _, by simp [maxLen], by simp, by simp⟩⟩
theorem one_map (k : IntKind) (l : List Int) : ∀ u ∈ l.map (Value.int k), u.oneCell' = true := by
  intro u hu
  obtain ⟨x, _, rfl⟩ := List.mem_map.1 hu
  rfl
theorem one_drop (k : IntKind) (l : List Int) (n : Nat) : ∀ u ∈ (l.map (Value.int k)).drop n, u.oneCell' = true := fun u hu => one_map k l u (List.mem_of_mem_drop hu)
theorem len_drop (k : IntKind) (l : List Int) (n : Nat) : ((l.map (Value.int k)).drop n).length = (l.length - n) * 1 := by simp
theorem Src.drewN {w : World} {A : Option Addr} {m : Nat} {news : List Value} (h : Src w A m news) (k : Nat) : Src (w.drewN k) A m news := h
theorem Src.drew {w : World} {A : Option Addr} {m : Nat} {news : List Value} (h : Src w A m news) : Src w.drew A m news := h

theorem run_append_on (t ty e : TypeId) (i : TypeInfo) (z : Value) (size bytes : Nat) (ht : P.underlying t = some (.slice e)) (hi : P.info? e = some i) (hz : i.zero = some z)
    (hsize : i.size = size) (hby : i.bytes = bytes) (hzs : z.cells.size = size) (hsz : 0 < size)
    (v : Value) (n : Nat) (xs : List Value) (hown : On w e size v n xs)
    (A : Option Addr) (m c : Nat) (news : List Value) (hl : news.length = m * size) (hnews : Src w A m news) (h1 : ∀ u ∈ news, u.oneCell' = true)
    (h63 : n + m ≤ maxLen) (hbytes : (n + m) * bytes ≤ 140737488355328) :
    ∃ v' w', (Builtin.append_ #[t, t] ty #[v, .slice A m c]).run P w = .ok v' w' ∧ On w' e size v' (n + m) (xs ++ news) ∧ w.grownBy w' v.ownBlock ∧
      (v'.ownBlock = v.ownBlock ∨ v'.ownBlock = some w.heap.size) := by
  subst hsize
  subst hby
  have hsmall : n + m ≤ 9223372036854775807 := by simp only [maxLen] at h63; omega
  have hlen : (xs ++ news).length = (n + m) * i.size := by rw [List.length_append, hown.1, hl, Nat.add_mul]
  by_cases hm : m = 0
  · subst hm
    have hn : news = [] := List.eq_nil_of_length_eq_zero (by simpa using hl)
    subst hn
    have hself := hown
    rcases hown.2 with ⟨rfl, rfl⟩ | ⟨g, cap, cur, rfl, hg, hnc, hcm, hcs, htake⟩
    · refine ⟨.slice none 0 0, w, ?_, by simpa using hself, ⟨rfl, rfl, rfl, Nat.le_refl _, fun _ _ _ => rfl⟩, .inl rfl⟩
      cases A with
      | none => simp [Builtin.append_, run_underlying ht, sizeOf, typeInfo, hi, Builtin.lenOf, Builtin.firstCells]
      | some ad => simp [Builtin.append_, run_underlying ht, sizeOf, typeInfo, hi, Builtin.lenOf, Builtin.firstCells, loadCells, loadCellsFrom]
    · exact ⟨_, w, run_append_room_on w t ty e i ht hi g n cap hnc _ ⟨A, c, rfl⟩, by simpa using hself, ⟨rfl, rfl, rfl, Nat.le_refl _, fun _ _ _ => rfl⟩, .inl rfl⟩
  · obtain ⟨ad, rfl, hcells⟩ : ∃ ad, A = some ad ∧ ∀ j u, news[j]? = some u → w.cell? (ad.add j) = some u := by
      rcases hnews with ⟨h0, _⟩ | h2
      · exact absurd h0 hm
      · exact h2
    have grown : ∀ (old : Nat), old < n + m → ∀ (row : Option Nat),
        On (w.drew.alloc (.cells (xs.toArray ++ news.toArray ++ Builtin.zeroCells z.cells (grownCap w (n + m) old e - (n + m))) e)) e i.size
          (.slice (some ⟨w.heap.size, 0, none⟩) (n + m) (grownCap w (n + m) old e)) (n + m) (xs ++ news) ∧
        w.grownBy (w.drew.alloc (.cells (xs.toArray ++ news.toArray ++ Builtin.zeroCells z.cells (grownCap w (n + m) old e - (n + m))) e)) row := by
      intro old ho row
      have hge := grownCap_ge w (n + m) old e
      have hcm : grownCap w (n + m) old e ≤ maxLen := grownCap_le_maxLen w (n + m) old e h63
      refine ⟨⟨hlen, .inr ⟨w.heap.size, _, _, rfl, heap_new w.drew _, hge, hcm, ?_, ?_⟩⟩, ⟨rfl, rfl, rfl, by simp, fun k hk _ => heap_old w.drew _ hk⟩⟩
      · simp only [Array.size_append, List.size_toArray, size_zeroCells, hzs, hown.1, hl, ← Nat.add_mul]
        apply Nat.mul_le_mul_right
        omega
      · simp only [Array.toList_append, List.append_assoc]
        rw [← List.append_assoc, ← hlen]
        exact List.take_left
    rcases hown.2 with ⟨rfl, rfl⟩ | ⟨g, cap, cur, rfl, hg, hnc, hcm, hcs, htake⟩
    · have hx : xs = [] := List.eq_nil_of_length_eq_zero (by simpa using hown.1)
      subst hx
      have hr := run_append_nil (P := P) w t ty e i z ht hi hz ad m c news hl hcells (by omega) (by omega) (by have hb := hbytes; simp only [Nat.zero_add] at hb; omega)
      have hgr := grown 0 (by omega) (Value.ownBlock (.slice none 0 0))
      simp only [Nat.zero_add, List.nil_append, Array.empty_append] at hgr ⊢
      exact ⟨_, _, hr, hgr.1, hgr.2, .inr rfl⟩
    · by_cases hroom : n + m ≤ cap
      · have hfit : n * i.size + news.length ≤ cur.size := by rw [hl, ← Nat.add_mul]; exact Nat.le_trans (Nat.mul_le_mul_right _ hroom) hcs
        have hr := run_append_room (P := P) w t ty e i ht hi g n cap cur hg ad m c news hl hcells h1 hroom hfit
        refine ⟨_, _, hr, ⟨hlen, .inr ⟨g, cap, _, rfl, setRow_heap w g cur _ e _ hg, hroom, hcm, ?_, ?_⟩⟩, ⟨rfl, rfl, rfl, by simp, fun k _ hk => setRow_other w g k _ (fun e => hk (by simp [Value.ownBlock, e]))⟩, .inl rfl⟩
        · simp only [List.size_toArray, List.length_append, List.length_take, List.length_drop, Array.length_toList]
          omega
        · rw [htake, ← hlen]
          exact List.take_left
      · have holds : ∀ j u, xs[j]? = some u → w.cell? ((⟨g, 0, none⟩ : Addr).add j) = some u := by
          intro j u hu
          have hadd : (⟨g, 0, none⟩ : Addr).add j = ⟨g, j, none⟩ := by unfold Addr.add; split <;> simp_all
          rw [hadd, cell_of_row w g j cur e (0, 0) hg]
          rw [← htake, List.getElem?_take] at hu
          split at hu
          · simpa using hu
          · cases hu
        have hr := run_append_grow (P := P) w t ty e i z ht hi hz ⟨g, 0, none⟩ n cap xs hown.1 holds ad m c news hl hcells (by omega) (by omega) (growslice_fits (by omega) hbytes)
        have hgr := grown cap (by omega) (Value.ownBlock (.slice (some ⟨g, 0, none⟩) n cap))
        exact ⟨_, _, hr, hgr.1, hgr.2, .inr rfl⟩

theorem wp_append_on {o : Oper} {a : Act} {K : Act → World → Prop} {Q : Exit → Act → World → Prop} (s x : Operand) (t : TypeId)
    (ho : o.op = .call { callee := .builtin .append, args := #[s, x], argTypes := #[t, t] })
    (e : TypeId) (i : TypeInfo) (z : Value) (size bytes : Nat) (ht : P.underlying t = some (.slice e)) (hi : P.info? e = some i) (hz : i.zero = some z)
    (hsize : i.size = size) (hby : i.bytes = bytes) (hzs : z.cells.size = size) (hsz : 0 < size)
    (v : Value) (n : Nat) (xs : List Value) (hs : a.eval s = v) (hown : On w e size v n xs)
    (A : Option Addr) (m c : Nat) (news : List Value) (hx : a.eval x = .slice A m c) (hl : news.length = m * size) (hnews : Src w A m news) (h1 : ∀ u ∈ news, u.oneCell' = true)
    (h63 : n + m ≤ maxLen) (hbytes : (n + m) * bytes ≤ 140737488355328)
    (h : ∀ v' w', On w' e size v' (n + m) (xs ++ news) → w.grownBy w' v.ownBlock → (v'.ownBlock = v.ownBlock ∨ v'.ownBlock = some w.heap.size) → K (a.put o.dst v') w') : o.wp P a w K Q := by
  obtain ⟨v', w', hrun, h2, h3, h4⟩ := run_append_on (P := P) w t o.type e i z size bytes ht hi hz hsize hby hzs hsz v n xs hown A m c news hl hnews h1 h63 hbytes
  unfold Oper.wp execOp
  simp only [ho, resolve, invoke, builtin, Sem.run_bind, Sem.run_pure, Result.andThen_ok, List.map_toArray, List.map_cons, List.map_nil, hs, hx, hrun]
  exact h v' w' h2 h3 h4

theorem wpList_append_on {ops : Array Oper} {rest : List Oper} {o : Oper} {a : Act} {Q : Exit → Act → World → Prop} (hgd : o.guard = none) (s x : Operand) (t : TypeId)
    (ho : o.op = .call { callee := .builtin .append, args := #[s, x], argTypes := #[t, t] })
    (e : TypeId) (i : TypeInfo) (z : Value) (size bytes : Nat) (ht : P.underlying t = some (.slice e)) (hi : P.info? e = some i) (hz : i.zero = some z)
    (hsize : i.size = size) (hby : i.bytes = bytes) (hzs : z.cells.size = size) (hsz : 0 < size)
    (v : Value) (n : Nat) (xs : List Value) (hs : a.eval s = v) (hown : On w e size v n xs)
    (A : Option Addr) (m c : Nat) (news : List Value) (hx : a.eval x = .slice A m c) (hl : news.length = m * size) (hnews : Src w A m news) (h1 : ∀ u ∈ news, u.oneCell' = true)
    (h63 : n + m ≤ maxLen) (hbytes : (n + m) * bytes ≤ 140737488355328)
    (h : ∀ v' w', On w' e size v' (n + m) (xs ++ news) → w.grownBy w' v.ownBlock → (v'.ownBlock = v.ownBlock ∨ v'.ownBlock = some w.heap.size) → wpList P ops Q rest (a.put o.dst v') w') : wpList P ops Q (o :: rest) a w :=
  wpList_plain hgd fun _ hK => wp_append_on w s x t ho e i z size bytes ht hi hz hsize hby hzs hsz v n xs hs hown A m c news hx hl hnews h1 h63 hbytes fun v' w' h2 h3 h4 => hK _ _ (h v' w' h2 h3 h4)

theorem step_append_on {ops : Array Oper} {o : Oper} {a : Act} {K : Act → World → Prop} {Q : Exit → Act → World → Prop} {E : Prop} (hgd : o.guard = none) (s x : Operand) (t : TypeId)
    (ho : o.op = .call { callee := .builtin .append, args := #[s, x], argTypes := #[t, t] })
    (e : TypeId) (i : TypeInfo) (z : Value) (size bytes : Nat) (ht : P.underlying t = some (.slice e)) (hi : P.info? e = some i) (hz : i.zero = some z)
    (hsize : i.size = size) (hby : i.bytes = bytes) (hzs : z.cells.size = size) (hsz : 0 < size)
    (v : Value) (n : Nat) (xs : List Value) (hs : a.eval s = v) (hown : On w e size v n xs)
    (A : Option Addr) (m c : Nat) (news : List Value) (hx : a.eval x = .slice A m c) (hl : news.length = m * size) (hnews : Src w A m news) (h1 : ∀ u ∈ news, u.oneCell' = true)
    (h63 : n + m ≤ maxLen) (hbytes : (n + m) * bytes ≤ 140737488355328)
    (h : ∀ v' w', On w' e size v' (n + m) (xs ++ news) → w.grownBy w' v.ownBlock → (v'.ownBlock = v.ownBlock ∨ v'.ownBlock = some w.heap.size) → K (a.put o.dst v') w') :
    if Region.wanted o (yielded ops a.tmps) = true then Oper.wp P o a w K Q else E := by
  have hw : Region.wanted o (yielded ops a.tmps) = true := by simp [Region.wanted, hgd]
  rw [if_pos hw]
  exact wp_append_on w s x t ho e i z size bytes ht hi hz hsize hby hzs hsz v n xs hs hown A m c news hx hl hnews h1 h63 hbytes h
end

/-- A slice of numbers that came in. -/
def Row (k : IntKind) (w : World) (a : Option Addr) (len : Nat) (zs : List Int) : Prop :=
  zs.length = len ∧ (0 < len → ∃ b off, a = some ⟨b, off, none⟩ ∧ b < w.heap.size ∧ ∀ j, j < len → w.cell? ⟨b, off + j, none⟩ = some (.int k (nth zs j)))
theorem Row.below {k : IntKind} {w w' : World} {a : Option Addr} {len : Nat} {zs : List Int} (h : Row k w a len zs) (hb : Below w.heap.size w w') : Row k w' a len zs :=
  ⟨h.1, fun hp => by
    obtain ⟨b, off, e, hlt, hc⟩ := h.2 hp
    exact ⟨b, off, e, Nat.lt_of_lt_of_le hlt hb.size, fun j hj => (hb.cell (p := ⟨b, off + j, none⟩) hlt).trans (hc j hj)⟩⟩


end Go.Proofs.YtckkpgopddnkiaaGreat
namespace Go.Proofs.YtckkpgopddnkiaaGreat.RingInput
open Go.RowKit

theorem info : (Tryz.prog.info? 31).map (fun i => (i.zero, i.size, i.bytes)) = some (some (.int .u16 0), 1, 2) := by kernel_rfl

/-- A ring in memory: its block, and its list. -/
def At (w : World) (r : Nat) (room first : Int) (sv : Value) (l : List Int) : Prop :=
  Blk w r 125 #[.int .i64 room, .int .i64 first, sv] ∧ On w 31 1 sv l.length (l.map (Value.int .u16))
def fp (r : Nat) (sv : Value) : Nat → Prop := fun k => k = r ∨ sv.ownBlock = some k
section
variable {S : Nat → Prop} {w w' : World} {r : Nat} {room first : Int} {sv : Value} {l : List Int}
theorem At.lt (h : At w r room first sv l) : ∀ k, fp r sv k → k < w.heap.size := fun k hk => hk.elim (fun e => e ▸ h.1.lt) (fun e => h.2.lt k e)
theorem At.ne_ (h : At w r room first sv l) : sv.ownBlock ≠ some r := h.2.blk_ne h.1 (by decide)
theorem At.drewN (h : At w r room first sv l) (n : Nat) : At (w.drewN n) r room first sv l := h
theorem At.drew (h : At w r room first sv l) : At w.drew r room first sv l := h
theorem At.alloc (h : At w r room first sv l) (o : Obj) : At (w.alloc o) r room first sv l := ⟨h.1.alloc o, h.2.alloc o⟩
theorem At.heap_eq (h : At w r room first sv l) (hW : w'.heap = w.heap) : At w' r room first sv l := ⟨h.1.heap_eq hW, h.2.heap_eq hW⟩
theorem At.touch (h : At w r room first sv l) (ht : Touch S w w') (hS : ∀ k, fp r sv k → ¬ S k) : At w' r room first sv l := ⟨h.1.touch ht (hS r (.inl rfl)), h.2.touch ht fun g hg => hS g (.inr hg)⟩
theorem At.cells (h : At w r room first sv l) : (w.cell? ⟨r, 0, none⟩ = some (.int .i64 room) ∧ w.cell? ⟨r, 1, none⟩ = some (.int .i64 first) ∧ w.cell? ⟨r, 2, none⟩ = some sv) ∧
    (w.frozen? ⟨r, 0, none⟩ = false ∧ w.frozen? ⟨r, 1, none⟩ = false ∧ w.frozen? ⟨r, 2, none⟩ = false) :=
  ⟨⟨h.1.cell 0, h.1.cell 1, h.1.cell 2⟩, h.1.frozen 0, h.1.frozen 1, h.1.frozen 2⟩
theorem At.slc (h : At w r room first sv l) : ∃ a c, sv = .slice a l.length c ∧ l.length ≤ c ∧ c ≤ maxLen ∧ (0 < l.length → ∃ g, a = some ⟨g, 0, none⟩ ∧ g ≠ r ∧ ∀ j, j < l.length → w.cell? ⟨g, j, none⟩ = some (.int .u16 (nth l j)) ∧ w.frozen? ⟨g, j, none⟩ = false) := by
  have hne := h.ne_
  rcases h.2.form with ⟨rfl, h0, _⟩ | ⟨g, cap, hv, hnc, hcm, hown, hlt, hc, hf⟩
  · exact ⟨none, 0, by rw [h0], by omega, by simp [maxLen], fun hp => by omega⟩
  · refine ⟨_, cap, hv, hnc, hcm, fun _ => ⟨g, rfl, fun e => hne (by rw [hown, e]), fun j hj => ⟨?_, hf j⟩⟩⟩
    rw [hc j (.int .u16 (nth l j))]
    simp [nth, List.getD, hj]
end

set_option maxHeartbeats 400000 in
theorem next_any (w : World) (r : Nat) (room first : Int) (sv : Value) (l : List Int) (h : At w r room first sv l) (h0 : 0 ≤ first) (h1 : first + l.length ≤ 4611686018427387904) :
    Calls Tryz.prog 71 #[.pointer (some ⟨r, 0, none⟩)] w fun e w' => e = .returned (.int .i64 (first + l.length)) ∧ ∃ n, w' = w.drewN n := by
  obtain ⟨⟨c0, c1, c2⟩, f0, f1, f2⟩ := h.cells
  obtain ⟨a, c, rfl, hlc, hcm, hsv⟩ := h.slc
  go_enter Tryz.func71, Tryz.ntmps71
  go_wp2
  go_quiet (fail)
  go_wp2
  go_ret
  exact ⟨rfl, nq, rfl⟩

/-- Where an entry stands. -/
def placeB (first : Int) (len : Nat) (n : Int) : Int := if n < first then -1 else if n - first ≥ len then -1 else n - first

set_option maxHeartbeats 400000 in
theorem place_any (w : World) (r : Nat) (room first n : Int) (sv : Value) (l : List Int) (h : At w r room first sv l) (h0 : 0 ≤ first) (hn : n ≤ 9223372036854775807) :
    Calls Tryz.prog 75 #[.pointer (some ⟨r, 0, none⟩), .int .i64 n] w fun e w' => e = .returned (.int .i64 (placeB first l.length n)) ∧ ∃ n, w' = w.drewN n := by
  obtain ⟨⟨c0, c1, c2⟩, f0, f1, f2⟩ := h.cells
  obtain ⟨a, c, rfl, hlc, hcm, hsv⟩ := h.slc
  by_cases c0 : n < first
  · have d0 : decide (n < first) = true := by simp [c0]
    have e : placeB first l.length n = -1 := by simp [placeB, c0]
    have E := Lib.hid e
    clear e
    go_enter Tryz.func75, Tryz.ntmps75
    go_wp2_with fail
    go_quiet (fail)
    go_wp2
    go_ret
    exact ⟨ret_int E.out.symm, nq, rfl⟩
  · have d0 : decide (n < first) = false := by simp [c0]
    by_cases c1 : (l.length : Int) ≤ n - first
    · have e : placeB first l.length n = -1 := by simp [placeB, c0, c1]
      have E := Lib.hid e
      clear e
      go_enter Tryz.func75, Tryz.ntmps75
      go_wp2_with fail
      go_quiet (fail)
      go_wp2
      go_ret
      exact ⟨ret_int E.out.symm, nq, rfl⟩
    · have e : placeB first l.length n = n - first := by simp [placeB, c0, c1]
      have E := Lib.hid e
      clear e
      go_enter Tryz.func75, Tryz.ntmps75
      go_wp2_with fail
      go_quiet (fail)
      go_wp2
      go_ret
      exact ⟨ret_int E.out.symm, nq, rfl⟩

/-- What At answers. -/
def atV (first : Int) (l : List Int) (n : Int) : Int := if n < first then 0 else if n - first ≥ l.length then 0 else nth l (n - first).toNat
def atE (first : Int) (len : Nat) (n : Int) : Int := if n < first then 90 else if n - first ≥ len then 91 else 0

set_option maxHeartbeats 1000000 in
theorem at_any (w : World) (r : Nat) (room first n : Int) (sv : Value) (l : List Int) (h : At w r room first sv l) (h0 : 0 ≤ first) (hn : n ≤ 9223372036854775807) :
    Calls Tryz.prog 52 #[.pointer (some ⟨r, 0, none⟩), .int .i64 n] w fun e w' => e = .returned (.tuple #[.int .u16 (atV first l n), .int .i64 (atE first l.length n)]) ∧ ∃ n, w' = w.drewN n := by
  obtain ⟨⟨c0, c1, c2⟩, f0, f1, f2⟩ := h.cells
  obtain ⟨a, c, rfl, hlc, hcm, hsv⟩ := h.slc
  unfold maxLen at hcm
  by_cases b0 : n < first
  · have e1 := Lib.hid (show atV first l n = 0 by simp [atV, b0])
    have e2 := Lib.hid (show atE first l.length n = 90 by simp [atE, b0])
    have e3 : placeB first l.length n = -1 := by simp [placeB, b0]
    have hp0 := place_any w r room first n _ l h h0 hn
    rw [e3] at hp0
    have hp := Lib.hid hp0
    clear e3 hp0
    go_enter Tryz.func52, Tryz.ntmps52
    go_wp2_with fail
    refine hp.out.mono ?_
    rintro e w' ⟨rfl, nq, rfl⟩
    go_wp2_with fail
    refine bodyPost_ret (results_tmp2 rfl _ _ _) rfl ⟨?_, nq, rfl⟩
    rw [e1.out, e2.out]
    rfl
  · by_cases b1 : (l.length : Int) ≤ n - first
    · have e1 := Lib.hid (show atV first l n = 0 by rw [atV, if_neg b0, if_pos b1])
      have e2 := Lib.hid (show atE first l.length n = 91 by rw [atE, if_neg b0, if_pos b1])
      have e3 : placeB first l.length n = -1 := by rw [placeB, if_neg b0, if_pos b1]
      have hp0 := place_any w r room first n _ l h h0 hn
      rw [e3] at hp0
      have hp := Lib.hid hp0
      clear e3 hp0
      go_enter Tryz.func52, Tryz.ntmps52
      go_wp2_with fail
      refine hp.out.mono ?_
      rintro e w' ⟨rfl, nq, rfl⟩
      go_wp2_with fail
      refine bodyPost_ret (results_tmp2 rfl _ _ _) rfl ⟨?_, nq, rfl⟩
      rw [e1.out, e2.out]
      rfl
    · obtain ⟨j, hj⟩ : ∃ j : Nat, n - first = (j : Int) := ⟨(n - first).toNat, by omega⟩
      have hjl : j < l.length := by omega
      obtain ⟨g, rfl, hgr, hc⟩ := hsv (by omega)
      obtain ⟨hcj, hfj⟩ := hc j hjl
      clear hc hfj
      have e1 := Lib.hid (show atV first l n = nth l j by rw [atV, if_neg b0, if_neg (by omega), hj, Int.toNat_natCast])
      have e2 := Lib.hid (show atE first l.length n = 0 by rw [atE, if_neg b0, if_neg b1])
      have e3 : placeB first l.length n = (j : Int) := by rw [placeB, if_neg b0, if_neg b1, hj]
      have hp0 := place_any w r room first n _ l h h0 hn
      rw [e3] at hp0
      have hp := Lib.hid hp0
      clear e3 hj hp0
      go_enter Tryz.func52, Tryz.ntmps52
      go_wp2_with fail
      refine hp.out.mono ?_
      rintro e w' ⟨rfl, nq, rfl⟩
      go_wp2_with fail
      refine bodyPost_ret (results_tmp2 rfl _ _ _) rfl ⟨?_, nq, rfl⟩
      rw [e1.out, e2.out]
      rfl

set_option maxHeartbeats 400000 in
theorem new_ok (n : Int) (w : World) (h : 1 ≤ n) (h2 : n ≤ 4096) :
    Calls Tryz.prog 57 #[.int .i64 n] w fun e w' => e = .returned (.tuple #[.pointer (some ⟨w.heap.size, 0, none⟩), .int .i64 0]) ∧ w.alloc (.cells #[.int .i64 n, .int .i64 0, .slice none 0 0] 125) = w' := by
  go_enter Tryz.func57, Tryz.ntmps57
  go_wp2
  go_ret2
  exact ⟨rfl, rfl⟩

theorem at_new (w : World) (n : Int) : At (w.alloc (.cells #[.int .i64 n, .int .i64 0, .slice none 0 0] 125)) w.heap.size n 0 (.slice none 0 0) [] := ⟨Blk.new _ _ _, On.nil _ _ _⟩

set_option maxHeartbeats 400000 in
theorem new_no (n : Int) (w : World) (h : n < 1 ∨ 4096 < n) :
    Calls Tryz.prog 57 #[.int .i64 n] w fun e w' => e = .returned (.tuple #[.pointer none, .int .i64 1]) ∧ w = w' := by
  rcases h with h | h
  · go_enter Tryz.func57, Tryz.ntmps57
    go_wp2
    go_ret2
    exact ⟨rfl, rfl⟩
  · have h' : ¬ n < 1 := by omega
    go_enter Tryz.func57, Tryz.ntmps57
    go_wp2
    go_ret2
    exact ⟨rfl, rfl⟩

end Go.Proofs.YtckkpgopddnkiaaGreat.RingInput
namespace Go.Proofs.YtckkpgopddnkiaaGreat.RingInput
open Go.RowKit

/-- What a call leaves: a ring, in its own blocks or new ones; nothing else has turned. -/
def Turned (w : World) (r : Nat) (sv : Value) (room first : Int) (l : List Int) (w' : World) : Prop :=
  ∃ sv', At w' r room first sv' l ∧ Touch (fp r sv) w w' ∧ ∀ k, fp r sv' k → fp r sv k ∨ w.heap.size ≤ k

def putF (room first : Int) (l : List Int) : Int := if (l.length : Int) = room then first + 1 else first
def putL (room : Int) (l : List Int) (v : Int) : List Int := (if (l.length : Int) = room then l.drop 1 else l) ++ [v]

/-- The list's end, in new memory. -/
theorem shift_ok {w w1 W : World} {r g c k n : Nat} {room first : Int} {l : List Int} {a' : Option Addr} {c' : Nat} (h : At w r room first (.slice (some ⟨g, 0, none⟩) l.length c) l) (hW : W.heap = w.heap) (hg : W.grownBy w1 (Value.slice (some ⟨g, 0, none⟩) 0 0).ownBlock)
    (hT : Touch (fp r (.slice (some ⟨g, 0, none⟩) l.length c)) w W) (hn : n = (l.drop k).length)
    (hown : On w1 31 1 (.slice a' n c') n ((l.map (Value.int .u16)).drop k)) (hat : (Value.slice a' n c').ownBlock = (Value.slice (some ⟨g, 0, none⟩) 0 0).ownBlock ∨ (Value.slice a' n c').ownBlock = some W.heap.size) (f' : Int) :
    Turned w r (.slice (some ⟨g, 0, none⟩) l.length c) room f' (l.drop k) ((w1.setCell ⟨r, 2, none⟩ (.slice a' n c')).setCell ⟨r, 1, none⟩ (.int .i64 f')) := by
  subst hn
  have hne := h.ne_
  have hb1 : Blk w1 r _ _ := Blk.grown' hg (by unfold Blk; rw [hW]; exact h.1) (by exact hne)
  have hb3 := (hb1.set_ 2 (.slice a' (l.drop k).length c')).set_ 1 (.int .i64 f')
  refine ⟨.slice a' (l.drop k).length c', ⟨hb3, ?_⟩, ?_, ?_⟩
  · have := (hown.far (p := ⟨r, 2, none⟩) (hown.blk_ne hb1 (by decide)) (.slice a' (l.drop k).length c')).far (p := ⟨r, 1, none⟩) (hown.blk_ne hb1 (by decide)) (.int .i64 f')
    rw [← List.map_drop] at this
    exact this
  · exact ((hT.grown hg (fun k hk => .inl (.inr hk))).setCell (.inl (.inl rfl)) _).setCell (.inl (.inl rfl)) _
  · exact fun k hk => hk.elim (fun e => .inl (.inl e)) (fun e => (own_le hat (by rw [hW]; exact Nat.le_refl _) k e).imp .inr id)

set_option maxRecDepth 100000 in
set_option maxHeartbeats 2000000 in
theorem put_any (w : World) (r : Nat) (room first v : Int) (sv : Value) (l : List Int) (h : At w r room first sv l) (h0 : 0 ≤ first) (h1 : first + l.length ≤ 4611686018427387904) (hl : l.length ≤ 4096) (hroom : 0 < room) :
    Calls Tryz.prog 58 #[.pointer (some ⟨r, 0, none⟩), .int .u16 v] w fun e w' => e = .returned (.int .i64 (first + l.length)) ∧ Turned w r sv room (putF room first l) (putL room l v) w' := by
  obtain ⟨⟨c0, c1, c2⟩, f0, f1, f2⟩ := h.cells
  have hlt := h.1.lt
  have hne := h.ne_
  obtain ⟨a, c, rfl, hlc, hcm, hsv⟩ := h.slc
  obtain ⟨i0, hi0, hz0, hz1, hz2⟩ := info_parts info
  have hp := Lib.hid (next_any w r room first _ l h h0 h1)
  have hsv' := Lib.hid hsv
  clear hsv
  go_enter Tryz.func58, Tryz.ntmps58
  go_wp2_with fail
  refine hp.out.mono ?_
  rintro e w' ⟨rfl, nq_1, rfl⟩
  go_wp2_with fail
  go_quiet (fail)
  go_upto_if 17 with fail
  go_cut [] (fun wx => Turned w r (.slice a l.length c) room (putF room first l) (if (l.length : Int) = room then l.drop 1 else l) wx)
  case first =>
    by_cases hr : ((l.length : Int) == room) = true
    · have hre : (l.length : Int) = room := by simpa using hr
      obtain ⟨g, rfl, hgr, hcell⟩ := hsv'.out (by omega)
      have hown0 : On w 31 1 (.slice (some ⟨g, 0, none⟩) 0 0) 0 [] := by simpa using h.2.cut (Nat.zero_le _)
      clear hcell
      unfold maxLen at hcm
      have hlp : (1 : Int) ≤ (l.length : Int) := by omega
      have hlp2 : (1 : Int) ≤ (c : Int) := by omega
      have hsrc := Lib.hid (src_drop h.2 1)
      have hq1 : 0 + (l.length - 1) ≤ maxLen := by simp only [maxLen]; omega
      have hq2 : (0 + (l.length - 1)) * 2 ≤ 140737488355328 := by omega
      have hE := Lib.hid hre
      clear hre
      by_cases hc1 : c = 1
      · subst hc1
        have hl1 := Lib.hid (show l.length = 1 by omega)
        go_wp2_with fail
        go_region_law (refine step_append_on _ (by rfl) (.tmp 23) (.tmp 28) _ (by rfl) 31 i0 _ 1 2 Tryz.underlying28 hi0 hz0 hz1 hz2 rfl (by omega) (.slice (some ⟨g, 0, none⟩) 0 0) 0 [] (by rfl) (by exact hown0) (some ⟨g, 0, none⟩) 0 0 [] (by rfl) (by rfl) (.inl ⟨rfl, rfl⟩) (fun _ hu => by cases hu) (by simp [maxLen]) (by omega) ?_; intro v' w1 hown1 hg1 hat1; obtain ⟨a', c', rfl, hlc', hcm'⟩ := hown1.slice; have hb1 := Blk.grown' hg1 (by exact h.1) (by exact hne); have k1 : w1.cell? ⟨r, 1, none⟩ = some (.int .i64 first) := hb1.cell 1; have k2 : w1.cell? ⟨r, 2, none⟩ = some (.slice (some ⟨g, 0, none⟩) l.length 1) := hb1.cell 2; have kf := hb1.frozen 2; have kf1 := hb1.frozen 1)
        all_goals
          go_wp2_with fail
          go_meet
          have hd : l.drop 1 = [] := List.eq_nil_of_length_eq_zero (by rw [List.length_drop, hl1.out])
          simp only [Nat.add_zero, List.append_nil] at hown1 hat1
          rw [putF, if_pos hE.out, if_pos hE.out]
          exact shift_ok h (by rfl) hg1 ⟨rfl, rfl, rfl, Nat.le_refl _, fun _ _ _ => rfl⟩ (by rw [hd]; rfl) (by rw [← List.map_drop, hd]; exact hown1) hat1 _
      · go_wp2_with fail
        go_region_law (refine step_append_on _ (by rfl) (.tmp 23) (.tmp 28) _ (by rfl) 31 i0 _ 1 2 Tryz.underlying28 hi0 hz0 hz1 hz2 rfl (by omega) (.slice (some ⟨g, 0, none⟩) 0 0) 0 [] (by rfl) (by exact hown0) (some ⟨g, 1, none⟩) (l.length - 1) (c - 1) ((l.map (Value.int .u16)).drop 1) (by rfl) (len_drop _ _ _) (by exact hsrc.out) (one_drop _ _ _) hq1 hq2 ?_; intro v' w1 hown1 hg1 hat1; obtain ⟨a', c', rfl, hlc', hcm'⟩ := hown1.slice; have hb1 := Blk.grown' hg1 (by exact h.1) (by exact hne); have k1 : w1.cell? ⟨r, 1, none⟩ = some (.int .i64 first) := hb1.cell 1; have k2 : w1.cell? ⟨r, 2, none⟩ = some (.slice (some ⟨g, 0, none⟩) l.length c) := hb1.cell 2; have kf := hb1.frozen 2; have kf1 := hb1.frozen 1)
        all_goals
          go_wp2_with fail
          go_meet
          simp only [Nat.zero_add, List.nil_append] at hown1 hat1
          rw [putF, if_pos hE.out, if_pos hE.out]
          exact shift_ok h (by rfl) hg1 ⟨rfl, rfl, rfl, Nat.le_refl _, fun _ _ _ => rfl⟩ (by simp) hown1 hat1 _
    · have hr2 : ((l.length : Int) == room) = false := by simpa using hr
      clear hr
      go_wp2_with fail
      go_meet
      have hne2 : ¬ (l.length : Int) = room := by simpa using hr2
      rw [putF, if_neg hne2, if_neg hne2]
      exact ⟨_, h, ⟨rfl, rfl, rfl, Nat.le_refl _, fun _ _ _ => rfl⟩, fun k hk => .inl hk⟩
  case rest =>
    obtain ⟨sv1, hA, hT, hF⟩ := hcut
    have hln : (if (l.length : Int) = room then l.drop 1 else l).length ≤ 4096 := by split <;> first | omega | (rw [List.length_drop]; omega)
    have hPL := Lib.hid (show putL room l v = (if (l.length : Int) = room then l.drop 1 else l) ++ [v] from rfl)
    generalize (if (l.length : Int) = room then l.drop 1 else l) = l1 at hA hln hPL
    obtain ⟨first1, hf1⟩ : ∃ x, x = putF room first l := ⟨_, rfl⟩
    rw [← hf1] at hA
    have hfirst := Lib.hid hf1
    clear hf1
    obtain ⟨⟨d0, d1, d2⟩, e0, e1, e2⟩ := hA.cells
    have hne1 := hA.ne_
    clear hne
    obtain ⟨a1, cc1, rfl, hlc1, hcm1⟩ := hA.2.slice
    have hown := hA.2.alloc (.cells #[.int .u16 v] 31)
    go_wp2_with (at_builtin; refine wpList_append_on _ rfl (.tmp 43) (.tmp 45) _ rfl 31 i0 _ 1 2 Tryz.underlying28 hi0 hz0 hz1 hz2 rfl (by omega) (.slice a1 l1.length cc1) _ _ rfl hown _ 1 1 [.int .u16 v] rfl rfl (.inr ⟨_, rfl, cell_one_new _ _ _⟩) (by simp [Value.oneCell']) (by simp only [maxLen]; omega) (by omega) ?_; intro v' w1 hown1 hg1 hat1; obtain ⟨a', c', rfl, hlc', hcm'⟩ := hown1.slice; have hb1 := (hA.1.alloc (.cells #[.int .u16 v] 31)).grown hg1 (fun e => hne1 e.symm); have k2 : w1.cell? ⟨r, 2, none⟩ = some (.slice a1 l1.length cc1) := hb1.cell 2; have kf := hb1.frozen 2; clear hown)
    go_ret
    rw [hPL.out, ← hfirst.out]
    refine ⟨rfl, .slice a' (l1.length + 1) c', ⟨hb1.set_ 2 _, ?_⟩, ?_, ?_⟩
    · have := hown1.far (p := ⟨r, 2, none⟩) (hown1.blk_ne hb1 (by decide)) (.slice a' (l1.length + 1) c')
      simpa using this
    · exact ((((hT.alloc _).grown hg1 (fun k hk => (hF k (.inr hk)))).setCell (.inl (.inl rfl)) _))
    · exact fun k hk => hk.elim (fun e => .inl (.inl e)) (fun e => (own_le hat1 (by have := hT.size; simp; omega) k e).elim (fun e2 => hF k (.inr e2)) .inr)

end Go.Proofs.YtckkpgopddnkiaaGreat.RingInput
namespace Go.Proofs.YtckkpgopddnkiaaGreat.RingInput
open Go.RowKit

theorem Turned.same {w w' : World} {r : Nat} {sv : Value} {room first : Int} {l : List Int} (h : At w r room first sv l) (hw : w'.heap = w.heap) (ht : Touch (fp r sv) w w') : Turned w r sv room first l w' :=
  ⟨sv, ⟨by unfold Blk; rw [hw]; exact h.1, h.2.of_heap fun g _ => by rw [hw]⟩, ht, fun _ hk => .inl hk⟩
theorem touch_same (S : Nat → Prop) (w : World) (n : Nat) : Touch S w (w.drewN n) := (Touch.refl S w).drewN n

def setL (first : Int) (l : List Int) (n v : Int) : List Int := if n < first then l else if n - first ≥ l.length then l else l.set (n - first).toNat v

set_option maxRecDepth 100000 in
set_option maxHeartbeats 1000000 in
theorem set_any (w : World) (r : Nat) (room first n v : Int) (sv : Value) (l : List Int) (h : At w r room first sv l) (h0 : 0 ≤ first) (hn : n ≤ 9223372036854775807) :
    Calls Tryz.prog 80 #[.pointer (some ⟨r, 0, none⟩), .int .i64 n, .int .u16 v] w fun e w' => e = .returned (.int .i64 (atE first l.length n)) ∧ Turned w r sv room first (setL first l n v) w' := by
  obtain ⟨⟨c0, c1, c2⟩, f0, f1, f2⟩ := h.cells
  have hat := at_any w r room first n sv l h h0 hn
  by_cases b0 : n < first
  · have e2 : atE first l.length n = 90 := by simp [atE, b0]
    have e4 := Lib.hid (show setL first l n v = l by rw [setL, if_pos b0])
    rw [e2] at hat
    have hp := Lib.hid hat
    have e5 := Lib.hid e2
    clear e2 hat
    go_enter Tryz.func80, Tryz.ntmps80
    go_wp2_with fail
    refine hp.out.mono ?_
    rintro e w' ⟨rfl, nq, rfl⟩
    go_wp2_with fail
    refine bodyPost_ret (results_tmp rfl _ _ _) rfl ⟨?_, ?_⟩
    · rw [e5.out]; rfl
    · rw [e4.out]; exact .same h rfl (touch_same _ _ _)
  · by_cases b1 : (l.length : Int) ≤ n - first
    · have e2 : atE first l.length n = 91 := by rw [atE, if_neg b0, if_pos b1]
      have e4 := Lib.hid (show setL first l n v = l by rw [setL, if_neg b0, if_pos b1])
      rw [e2] at hat
      have hp := Lib.hid hat
      have e5 := Lib.hid e2
      clear e2 hat
      go_enter Tryz.func80, Tryz.ntmps80
      go_wp2_with fail
      refine hp.out.mono ?_
      rintro e w' ⟨rfl, nq, rfl⟩
      go_wp2_with fail
      refine bodyPost_ret (results_tmp rfl _ _ _) rfl ⟨?_, ?_⟩
      · rw [e5.out]; rfl
      · rw [e4.out]; exact .same h rfl (touch_same _ _ _)
    · obtain ⟨j, hj⟩ : ∃ j : Nat, n - first = (j : Int) := ⟨(n - first).toNat, by omega⟩
      have hjl : j < l.length := by omega
      have e2 : atE first l.length n = 0 := by rw [atE, if_neg b0, if_neg b1]
      have e4 := Lib.hid (show setL first l n v = l.set j v by rw [setL, if_neg b0, if_neg (by omega), hj, Int.toNat_natCast])
      have e3 : placeB first l.length n = (j : Int) := by rw [placeB, if_neg b0, if_neg b1, hj]
      have hpl := fun k => place_any (w.drewN k) r room first n sv l (h.drewN k) h0 hn
      rw [e2] at hat
      rw [e3] at hpl
      have hp := Lib.hid hat
      have hpl' := Lib.hid hpl
      have e5 := Lib.hid e2
      clear e2 hat e3 hpl hj
      obtain ⟨a, c, rfl, hlc, hcm, hsv⟩ := h.slc
      unfold maxLen at hcm
      obtain ⟨g, rfl, hgr, hc⟩ := hsv (by omega)
      obtain ⟨hcj, hfj⟩ := hc j hjl
      clear hc hsv
      go_enter Tryz.func80, Tryz.ntmps80
      go_wp2_with fail
      refine hp.out.mono ?_
      rintro e w' ⟨rfl, nq, rfl⟩
      go_wp2_with fail
      go_region_held3 (fun w' => w'.cell? ⟨r, 2, none⟩ = some (.slice (some ⟨g, 0, none⟩) l.length c)) (go_keep)
        (first | (go_at_call 75; refine (hpl'.out _).mono ?_; rintro e w' ⟨rfl, nq2, rfl⟩))
      go_wp2_with fail
      refine bodyPost_ret (results_tmp rfl _ _ _) rfl ⟨?_, ?_⟩
      · rw [e5.out]; rfl
      · rw [e4.out]
        refine ⟨_, ⟨h.1.far (p := ⟨g, j, none⟩) (by exact hgr.symm) _, ?_⟩, ((touch_same _ _ _).setCell (p := ⟨g, j, none⟩) (Or.inl (Or.inr rfl)) _), fun k hk => .inl hk⟩
        have := (h.2.drewN (nq + 1 + nq2)).store j (.int .u16 v)
        rw [← List.map_set] at this
        simpa using this

theorem touch_two {w W w1 : World} {r : Nat} {sv : Value} {row : Option Nat} (hT : Touch (fp r sv) w W) (hg : W.grownBy w1 row) (hr : ∀ k, row = some k → fp r sv k) (u1 u2 : Value) : Touch (fp r sv) w ((w1.setCell ⟨r, 2, none⟩ u1).setCell ⟨r, 1, none⟩ u2) :=
  ((hT.grown hg (fun k hk => Or.inl (hr k hk))).setCell (p := ⟨r, 2, none⟩) (Or.inl (Or.inl rfl)) _).setCell (p := ⟨r, 1, none⟩) (Or.inl (Or.inl rfl)) _

def dropF (first : Int) (len : Nat) (n : Int) : Int := if n ≤ first then first else first + min (n - first) len
def dropL (first : Int) (l : List Int) (n : Int) : List Int := if n ≤ first then l else l.drop (n - first).toNat

set_option maxRecDepth 100000 in
set_option maxHeartbeats 4000000 in
theorem drop_any (w : World) (r : Nat) (room first n : Int) (sv : Value) (l : List Int) (h : At w r room first sv l) (h0 : 0 ≤ first) (h1 : first + l.length ≤ 4611686018427387904) (hl : l.length ≤ 4096) (hn : n ≤ 9223372036854775807) :
    Calls Tryz.prog 70 #[.pointer (some ⟨r, 0, none⟩), .int .i64 n] w fun e w' => e = .returned (.tuple #[]) ∧ Turned w r sv room (dropF first l.length n) (dropL first l n) w' := by
  obtain ⟨⟨c0, c1, c2⟩, f0, f1, f2⟩ := h.cells
  by_cases b0 : n ≤ first
  · have e4 := Lib.hid (show dropL first l n = l by rw [dropL, if_pos b0])
    have e5 := Lib.hid (show dropF first l.length n = first by rw [dropF, if_pos b0])
    go_enter Tryz.func70, Tryz.ntmps70
    go_wp2_with fail
    refine bodyPost_ret (results_none rfl _ _ _) rfl ⟨rfl, ?_⟩
    rw [e4.out, e5.out]
    exact .same h rfl (touch_same _ _ 0)
  · obtain ⟨k, hk⟩ : ∃ k : Nat, min (n - first) (l.length : Int) = (k : Int) := ⟨(min (n - first) (l.length : Int)).toNat, by omega⟩
    have hkl : k ≤ l.length := by omega
    have e4 := Lib.hid (show dropL first l n = l.drop k by
      rw [dropL, if_neg b0]
      rcases Nat.le_total l.length (n - first).toNat with h2 | h2
      · rw [List.drop_eq_nil_of_le h2, List.drop_eq_nil_of_le (by omega)]
      · congr 1; omega)
    have e5 := Lib.hid (show dropF first l.length n = first + k by rw [dropF, if_neg b0, hk])
    have hk2 : (if (l.length : Int) < n - first then (l.length : Int) else n - first) = (k : Int) := by rw [← hk]; split <;> omega
    have hk0 : (0 : Int) ≤ (k : Int) := by omega
    have hkl2 : (k : Int) ≤ (l.length : Int) := by omega
    have hsum : first + (k : Int) ≤ 4611686018427387904 := by omega
    clear hk
    obtain ⟨i0, hi0, hz0, hz1, hz2⟩ := info_parts info
    obtain ⟨a, c, rfl, hlc, hcm⟩ := h.2.slice
    have hne := h.ne_
    go_enter Tryz.func70, Tryz.ntmps70
    go_wp2_with fail
    have hq1 : 0 + (l.length - k) ≤ maxLen := by simp only [maxLen]; omega
    have hq2 : (0 + (l.length - k)) * 2 ≤ 140737488355328 := by omega
    rcases h.2.form with ⟨hv, hl0, _⟩ | ⟨g, c', hv, _, hcm, _, _, _, _⟩
    · obtain rfl : l = [] := List.eq_nil_of_length_eq_zero hl0
      simp only [List.length_nil] at *
      cases hv
      obtain rfl : k = 0 := by omega
      have hown0 : On w 31 1 (.slice none 0 0) 0 [] := On.nil _ _ _
      have e6 := Lib.hid (show dropF first ([] : List Int).length n = first by have := e5.out; simpa using this)
      go_region
      go_wp2_with fail
      go_region_law (refine step_append_on _ (by rfl) (.tmp 28) (.tmp 34) _ (by rfl) 31 i0 _ 1 2 Tryz.underlying28 hi0 hz0 hz1 hz2 rfl (by omega) (.slice none 0 0) 0 [] (by rfl) (by exact hown0) none 0 0 [] (by rfl) (by rfl) (.inl ⟨rfl, rfl⟩) (fun _ hu => by cases hu) (by simp [maxLen]) (by omega) ?_; intro v' w1 hown1 hg1 hat1; obtain ⟨a', c', rfl, hlc', hcm'⟩ := hown1.slice; have hb1 := Blk.grown' hg1 (by exact h.1) (by exact hne); have k1 : w1.cell? ⟨r, 1, none⟩ = some (.int .i64 first) := hb1.cell 1; have k2 : w1.cell? ⟨r, 2, none⟩ = some (.slice none 0 0) := hb1.cell 2; have kf := hb1.frozen 2; have kf1 := hb1.frozen 1)
      all_goals
        go_wp2_with fail
        refine bodyPost_end (results_none rfl _ _ _) rfl ⟨rfl, ?_⟩
        rw [e4.out, e6.out]
        simp only [Nat.add_zero, List.append_nil] at hown1 hat1
        have hb3 := (hb1.set_ 2 (.slice a' 0 c')).set_ 1 (.int .i64 first)
        refine ⟨.slice a' 0 c', ⟨hb3, ?_⟩, touch_two (w := w) (W := w.drew.drew) (r := r) ⟨rfl, rfl, rfl, Nat.le_refl _, fun _ _ _ => rfl⟩ hg1 (fun k hk => by simp [Value.ownBlock] at hk) _ _, fun k hk => hk.elim (fun e => .inl (.inl e)) (fun e => (own_le hat1 (Nat.le_refl _) k e).imp .inr id)⟩
        exact (hown1.far (p := ⟨r, 2, none⟩) (hown1.blk_ne hb1 (by decide)) _).far (p := ⟨r, 1, none⟩) (hown1.blk_ne hb1 (by decide)) _
    · cases hv
      have hown0 : On w 31 1 (.slice (some ⟨g, 0, none⟩) 0 0) 0 [] := by simpa using h.2.cut (Nat.zero_le _)
      have hsrc := Lib.hid (src_drop h.2 k)
      unfold maxLen at hcm
      have hkc : (k : Int) ≤ (c : Int) := by omega
      go_region
      go_wp2_with fail
      by_cases hc1 : c = k
      · subst hc1
        have hl1 := Lib.hid (show l.length = c by omega)
        go_region_law (refine step_append_on _ (by rfl) (.tmp 28) (.tmp 34) _ (by rfl) 31 i0 _ 1 2 Tryz.underlying28 hi0 hz0 hz1 hz2 rfl (by omega) (.slice (some ⟨g, 0, none⟩) 0 0) 0 [] (by rfl) (by exact hown0) (some ⟨g, 0, none⟩) 0 0 [] (by rfl) (by rfl) (.inl ⟨rfl, rfl⟩) (fun _ hu => by cases hu) (by simp [maxLen]) (by omega) ?_; intro v' w1 hown1 hg1 hat1; obtain ⟨a', c', rfl, hlc', hcm'⟩ := hown1.slice; have hb1 := Blk.grown' hg1 (by exact h.1) (by exact hne); have k1 : w1.cell? ⟨r, 1, none⟩ = some (.int .i64 first) := hb1.cell 1; have k2 : w1.cell? ⟨r, 2, none⟩ = some (.slice (some ⟨g, 0, none⟩) l.length c) := hb1.cell 2; have kf := hb1.frozen 2; have kf1 := hb1.frozen 1)
        all_goals
          go_wp2_with fail
          refine bodyPost_end (results_none rfl _ _ _) rfl ⟨rfl, ?_⟩
          rw [e4.out, e5.out]
          have hd : l.drop c = [] := List.eq_nil_of_length_eq_zero (by rw [List.length_drop, hl1.out, Nat.sub_self])
          simp only [Nat.add_zero, List.append_nil] at hown1 hat1
          exact shift_ok h (by rfl) hg1 ⟨rfl, rfl, rfl, Nat.le_refl _, fun _ _ _ => rfl⟩ (by rw [hd]; rfl) (by rw [← List.map_drop, hd]; exact hown1) hat1 _
      · have hkc2 : (k : Int) < (c : Int) := by omega
        go_region_law (refine step_append_on _ (by rfl) (.tmp 28) (.tmp 34) _ (by rfl) 31 i0 _ 1 2 Tryz.underlying28 hi0 hz0 hz1 hz2 rfl (by omega) (.slice (some ⟨g, 0, none⟩) 0 0) 0 [] (by rfl) (by exact hown0) (some ⟨g, k, none⟩) (l.length - k) (c - k) ((l.map (Value.int .u16)).drop k) (by rfl) (len_drop _ _ _) (by exact hsrc.out) (one_drop _ _ _) hq1 hq2 ?_; intro v' w1 hown1 hg1 hat1; obtain ⟨a', c', rfl, hlc', hcm'⟩ := hown1.slice; have hb1 := Blk.grown' hg1 (by exact h.1) (by exact hne); have k1 : w1.cell? ⟨r, 1, none⟩ = some (.int .i64 first) := hb1.cell 1; have k2 : w1.cell? ⟨r, 2, none⟩ = some (.slice (some ⟨g, 0, none⟩) l.length c) := hb1.cell 2; have kf := hb1.frozen 2; have kf1 := hb1.frozen 1)
        all_goals
          go_wp2_with fail
          refine bodyPost_end (results_none rfl _ _ _) rfl ⟨rfl, ?_⟩
          rw [e4.out, e5.out]
          simp only [Nat.zero_add, List.nil_append] at hown1 hat1
          exact shift_ok h (by rfl) hg1 ⟨rfl, rfl, rfl, Nat.le_refl _, fun _ _ _ => rfl⟩ (by simp) hown1 hat1 _

end Go.Proofs.YtckkpgopddnkiaaGreat.RingInput
