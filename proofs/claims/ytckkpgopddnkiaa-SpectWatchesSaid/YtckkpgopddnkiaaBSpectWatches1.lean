/-
  Texts joined: Kit, Open, Dig. No condition.
-/
import Derived.WalkKit
import Derived.WalkSpells
import Derived.WalkLawsBesides
import Derived.BigQuiet
import Derived.Deep.QuietTactic
import Derived.Deep.RegionHeld3
import Derived.Deep.RegionLaw
import Derived.Deep.DeepCutAuto
import Derived.Deep.LoopGhost
import Derived.Deep.AppendLies
import Derived.Deep.Draws
import Derived.Lib.Hide
import Derived.KernelRfl
import Derived.ProofKit
import Derived.OpenShut
namespace Go.Proofs.Ytckkpgopddnkiaa
open Go.RowKit

theorem ret_bool {a b : Bool} (h : a = b) : Ending.returned (.bool a) = .returned (.bool b) := by rw [h]
theorem ret_int {k : IntKind} {a b : Int} (h : a = b) : Ending.returned (.int k a) = .returned (.int k b) := by rw [h]
theorem ret_val {a b : Value} (h : a = b) : Ending.returned a = .returned b := by rw [h]
theorem below_drewN {B : Nat} {a w : World} (h : Below B a w) (n : Nat) : Below B a (w.drewN n) := ⟨h.os, h.tape, h.output, h.size, h.block⟩
theorem bcell {W w1 : World} (hb : Below W.heap.size W w1) : (∀ b o, b < W.heap.size → w1.cell? ⟨b, o, none⟩ = W.cell? ⟨b, o, none⟩) ∧ (∀ b o, b < W.heap.size → w1.frozen? ⟨b, o, none⟩ = W.frozen? ⟨b, o, none⟩) :=
  ⟨fun b o h => hb.cell (p := ⟨b, o, none⟩) h, fun b o h => hb.frozen (p := ⟨b, o, none⟩) h⟩
theorem heap_new (w : World) (o : Obj) : (w.alloc o).heap[w.heap.size]? = some o := by
  show (w.heap.push o)[w.heap.size]? = some o
  simp
theorem heap_old (w : World) (o : Obj) {k : Nat} (h : k < w.heap.size) : (w.alloc o).heap[k]? = w.heap[k]? := Below.heap_alloc w o k h
theorem lt_of_heap {w : World} {k : Nat} {o : Obj} (h : w.heap[k]? = some o) : k < w.heap.size := (Array.getElem?_eq_some_iff.1 h).1

/-- The j-th of a list of numbers: a word that the walk doesn't look into. -/
def nth (l : List Int) (j : Nat) : Int := l.getD j 0

/-! ### Which blocks may have turned -/
structure Touch (S : Nat → Prop) (w w' : World) : Prop where
  os : w'.os = w.os
  tape : w'.tape = w.tape
  output : w'.output = w.output
  size : w.heap.size ≤ w'.heap.size
  block : ∀ k, k < w.heap.size → ¬ S k → w'.heap[k]? = w.heap[k]?
def noB : Nat → Prop := fun _ => False
section
variable {S S' : Nat → Prop} {a w w' : World}
theorem Touch.refl (S : Nat → Prop) (w : World) : Touch S w w := ⟨rfl, rfl, rfl, Nat.le_refl _, fun _ _ _ => rfl⟩
theorem Touch.trans {w1 w2 : World} (h : Touch S w w1) (h' : Touch S' w1 w2) (hs : ∀ k, S' k → S k ∨ w.heap.size ≤ k) : Touch S w w2 :=
  ⟨h'.os.trans h.os, h'.tape.trans h.tape, h'.output.trans h.output, Nat.le_trans h.size h'.size, fun k hk hn =>
    (h'.block k (Nat.lt_of_lt_of_le hk h.size) (fun hS => (hs k hS).elim hn (fun h1 => absurd hk (by omega)))).trans (h.block k hk hn)⟩
theorem Touch.mono (h : Touch S w w') (hs : ∀ k, S k → S' k ∨ w.heap.size ≤ k) : Touch S' w w' :=
  ⟨h.os, h.tape, h.output, h.size, fun k hk hn => h.block k hk (fun hS => (hs k hS).elim hn (fun h1 => absurd hk (by omega)))⟩
theorem Touch.drew (h : Touch S a w) : Touch S a w.drew := ⟨h.os, h.tape, h.output, h.size, h.block⟩
theorem Touch.drewN (h : Touch S a w) (n : Nat) : Touch S a (w.drewN n) := ⟨h.os, h.tape, h.output, h.size, h.block⟩
theorem Touch.alloc (h : Touch S a w) (o : Obj) : Touch S a (w.alloc o) :=
  ⟨h.os, h.tape, h.output, Nat.le_trans h.size (by simp), fun k hk hn => (heap_old w o (Nat.lt_of_lt_of_le hk h.size)).trans (h.block k hk hn)⟩
theorem Touch.setCell (h : Touch S a w) {p : Addr} (hp : S p.block ∨ a.heap.size ≤ p.block) (u : Value) : Touch S a (w.setCell p u) :=
  ⟨h.os, h.tape, h.output, by simpa [World.setCell] using h.size, fun k hk hn => (Below.heap_setCell w p u k (fun e => by subst e; exact hp.elim hn (fun h1 => absurd hk (by omega)))).trans (h.block k hk hn)⟩
theorem Touch.grown {row : Option Nat} (h : Touch S a w) (hg : w.grownBy w' row) (hr : ∀ k, row = some k → S k ∨ a.heap.size ≤ k) : Touch S a w' :=
  ⟨hg.os.trans h.os, hg.tape.trans h.tape, hg.output.trans h.output, Nat.le_trans h.size hg.size, fun k hk hn =>
    (hg.block k (Nat.lt_of_lt_of_le hk h.size) (fun e => (hr k e.symm).elim hn (fun h1 => absurd hk (by omega)))).trans (h.block k hk hn)⟩
theorem Touch.of_below (h : Below w.heap.size w w') : Touch S w w' := ⟨h.os, h.tape, h.output, h.size, fun k hk _ => h.block k hk⟩
theorem Touch.below {B : Nat} (h : Touch S w w') (hB : B ≤ w.heap.size) (hs : ∀ k, S k → B ≤ k) : Below B w w' :=
  ⟨h.os, h.tape, h.output, h.size, fun k hk => h.block k (by omega) (fun hS => absurd (hs k hS) (by omega))⟩
/-- What lies from B on stays from B on, and below B nothing has turned. -/
theorem Touch.base {B : Nat} (h : Touch S w w') (hF : ∀ k, S' k → S k ∨ w.heap.size ≤ k) (hB : B ≤ w.heap.size) (h0 : ∀ k, S k → B ≤ k) : Below B w w' ∧ (∀ k, S' k → B ≤ k) ∧ B ≤ w'.heap.size :=
  ⟨h.below hB h0, fun k hk => (hF k hk).elim (h0 k) (fun e => Nat.le_trans hB e), Nat.le_trans hB h.size⟩
theorem Touch.cell (h : Touch S w w') {p : Addr} (hk : p.block < w.heap.size) (hn : ¬ S p.block) : w'.cell? p = w.cell? p := World.cell?_of_block (h.block p.block hk hn)
theorem Touch.frozen (h : Touch S w w') {p : Addr} (hk : p.block < w.heap.size) (hn : ¬ S p.block) : w'.frozen? p = w.frozen? p := World.frozen?_of_block (h.block p.block hk hn)
end

/-! ### A block that is known whole -/
def Blk (w : World) (g : Nat) (t : TypeId) (cs : Array Value) : Prop := w.heap[g]? = some (.cells cs t (0, 0))
section
variable {S : Nat → Prop} {w w' : World} {g : Nat} {t : TypeId} {cs : Array Value}
theorem Blk.lt (h : Blk w g t cs) : g < w.heap.size := lt_of_heap h
theorem Blk.cell (h : Blk w g t cs) (i : Nat) : w.cell? ⟨g, i, none⟩ = cs[i]? := cell_of_row w g i cs t (0, 0) h
theorem Blk.frozen (h : Blk w g t cs) (i : Nat) : w.frozen? ⟨g, i, none⟩ = false := by
  unfold Blk at h
  simp [World.frozen?, h]
theorem Blk.new (w : World) (t : TypeId) (cs : Array Value) : Blk (w.alloc (.cells cs t)) w.heap.size t cs := heap_new w _
theorem Blk.drew (h : Blk w g t cs) : Blk w.drew g t cs := h
theorem Blk.drewN (h : Blk w g t cs) (n : Nat) : Blk (w.drewN n) g t cs := h
theorem Blk.alloc (h : Blk w g t cs) (o : Obj) : Blk (w.alloc o) g t cs := (heap_old w o h.lt).trans h
theorem Blk.set_ (h : Blk w g t cs) (i : Nat) (u : Value) : Blk (w.setCell ⟨g, i, none⟩ u) g t (cs.setIfInBounds i u) := by
  unfold Blk at h ⊢
  simp [World.setCell, Array.getElem?_modify, h]
theorem Blk.far (h : Blk w g t cs) {p : Addr} (hp : g ≠ p.block) (u : Value) : Blk (w.setCell p u) g t cs := (Below.heap_setCell w p u g hp).trans h
theorem Blk.below {B : Nat} (h : Blk w g t cs) (hb : Below B w w') (hg : g < B) : Blk w' g t cs := (hb.block g hg).trans h
theorem Blk.touch (h : Blk w g t cs) (hb : Touch S w w') (hg : ¬ S g) : Blk w' g t cs := (hb.block g h.lt hg).trans h
theorem Blk.grown {row : Option Nat} (h : Blk w g t cs) (hb : w.grownBy w' row) (hg : some g ≠ row) : Blk w' g t cs := (hb.block g h.lt hg).trans h
theorem Blk.grown' {row : Option Nat} (hb : w.grownBy w' row) (h : Blk w g t cs) (hg : row ≠ some g) : Blk w' g t cs := h.grown hb (fun e => hg e.symm)
theorem Blk.heap_eq (h : Blk w g t cs) (hW : w'.heap = w.heap) : Blk w' g t cs := by unfold Blk; rw [hW]; exact h
theorem Blk.ne_ {g' : Nat} {t' : TypeId} {cs' : Array Value} (h : Blk w g t cs) (h' : Blk w g' t' cs') (hne : t ≠ t') : g ≠ g' := by
  rintro rfl
  unfold Blk at h h'
  rw [h] at h'
  injection h' with h'
  injection h' with _ ht
  exact hne ht
end

/-! ### A slice at a block's head: its capacity may be below the block's length -/
def On (w : World) (e : TypeId) (size : Nat) (v : Value) (n : Nat) (xs : List Value) : Prop :=
  xs.length = n * size ∧
  ((v = .slice none 0 0 ∧ n = 0) ∨
   ∃ g cap cur, v = .slice (some ⟨g, 0, none⟩) n cap ∧ w.heap[g]? = some (.cells cur e (0, 0)) ∧ n ≤ cap ∧ cap ≤ maxLen ∧ cap * size ≤ cur.size ∧ cur.toList.take (n * size) = xs)
section
variable {S : Nat → Prop} {w w' : World} {e : TypeId} {size : Nat} {v : Value} {n : Nat} {xs : List Value}
theorem On.nil (w : World) (e : TypeId) (size : Nat) : On w e size (.slice none 0 0) 0 [] := ⟨by simp, .inl ⟨rfl, rfl⟩⟩
theorem On.of_heap (h : On w e size v n xs) (hh : ∀ g, v.ownBlock = some g → w'.heap[g]? = w.heap[g]?) : On w' e size v n xs := by
  refine ⟨h.1, ?_⟩
  rcases h.2 with h2 | ⟨g, cap, cur, rfl, hg, r⟩
  · exact .inl h2
  · exact .inr ⟨g, cap, cur, rfl, by rw [hh g (by simp [Value.ownBlock])]; exact hg, r⟩
theorem On.heap_eq (h : On w e size v n xs) (hW : w'.heap = w.heap) : On w' e size v n xs := h.of_heap fun _ _ => by rw [hW]
theorem On.lt (h : On w e size v n xs) : ∀ g, v.ownBlock = some g → g < w.heap.size := by
  intro g hg
  rcases h.2 with ⟨rfl, _⟩ | ⟨g', cap, cur, rfl, hh, _⟩
  · simp [Value.ownBlock] at hg
  · simp [Value.ownBlock] at hg
    subst hg
    exact lt_of_heap hh
theorem On.drew (h : On w e size v n xs) : On w.drew e size v n xs := h
theorem On.drewN (h : On w e size v n xs) (k : Nat) : On (w.drewN k) e size v n xs := h
theorem On.alloc (h : On w e size v n xs) (o : Obj) : On (w.alloc o) e size v n xs := h.of_heap fun g hg => heap_old w o (h.lt g hg)
theorem On.far (h : On w e size v n xs) {p : Addr} (hp : v.ownBlock ≠ some p.block) (u : Value) : On (w.setCell p u) e size v n xs :=
  h.of_heap fun g hg => Below.heap_setCell w p u g (fun e => hp (by rw [hg, e]))
theorem On.below {B : Nat} (h : On w e size v n xs) (hb : Below B w w') (hB : ∀ g, v.ownBlock = some g → g < B) : On w' e size v n xs := h.of_heap fun g hg => hb.block g (hB g hg)
theorem On.touch (h : On w e size v n xs) (hb : Touch S w w') (hS : ∀ g, v.ownBlock = some g → ¬ S g) : On w' e size v n xs := h.of_heap fun g hg => hb.block g (h.lt g hg) (hS g hg)
theorem On.grown {row : Option Nat} (h : On w e size v n xs) (hb : w.grownBy w' row) (hS : v.ownBlock = none ∨ v.ownBlock ≠ row) : On w' e size v n xs :=
  h.of_heap fun g hg => hb.block g (h.lt g hg) (fun e => hS.elim (fun h1 => by rw [hg] at h1; cases h1) (fun h1 => h1 (hg.trans e)))
/-- The value, written out: nil, or a block with its cells. -/
theorem On.form (h : On w e size v n xs) : (v = .slice none 0 0 ∧ n = 0 ∧ xs = []) ∨ ∃ g cap, v = .slice (some ⟨g, 0, none⟩) n cap ∧ n ≤ cap ∧ cap ≤ maxLen ∧ v.ownBlock = some g ∧ g < w.heap.size ∧ (∀ j u, xs[j]? = some u → w.cell? ⟨g, j, none⟩ = some u) ∧ (∀ j, w.frozen? ⟨g, j, none⟩ = false) := by
  have hl := h.1
  rcases h.2 with ⟨rfl, rfl⟩ | ⟨g, cap, cur, rfl, hg, hnc, hcm, hcs, htake⟩
  · exact .inl ⟨rfl, rfl, List.eq_nil_of_length_eq_zero (by simpa using hl)⟩
  · refine .inr ⟨g, cap, rfl, hnc, hcm, rfl, lt_of_heap hg, fun j u hu => ?_, fun j => by simp [World.frozen?, hg]⟩
    rw [cell_of_row w g j cur e (0, 0) hg]
    rw [← htake, List.getElem?_take] at hu
    split at hu
    · simpa using hu
    · cases hu
theorem On.slice (h : On w e size v n xs) : ∃ a c, v = .slice a n c ∧ n ≤ c ∧ c ≤ maxLen := by
  rcases h.2 with ⟨rfl, rfl⟩ | ⟨g, cap, cur, rfl, _, hnc, hcm, _⟩
  · exact ⟨_, _, rfl, Nat.le_refl _, by simp [maxLen]⟩
  · exact ⟨_, _, rfl, hnc, hcm⟩
theorem On.blk_ne {r : Nat} {t : TypeId} {cs : Array Value} (h : On w e size v n xs) (hr : Blk w r t cs) (hne : e ≠ t) : v.ownBlock ≠ some r := by
  rcases h.2 with ⟨rfl, _⟩ | ⟨g, cap, cur, rfl, hg, _⟩
  · simp [Value.ownBlock]
  · intro he
    have : g = r := by simpa [Value.ownBlock] using he
    subst this
    exact Blk.ne_ (t := e) hg hr hne rfl
/-- A cut at the front that keeps the head: 'v[:k:k]', k at most n. -/
theorem On.cut {g cap : Nat} (h : On w e size (.slice (some ⟨g, 0, none⟩) n cap) n xs) {k : Nat} (hk : k ≤ n) : On w e size (.slice (some ⟨g, 0, none⟩) k k) k (xs.take (k * size)) := by
  have hl := h.1
  rcases h.2 with ⟨hv, _⟩ | ⟨g', cap', cur, hv, hg, hnc, hcm, hcs, htake⟩
  · cases hv
  · cases hv
    have hks : k * size ≤ n * size := Nat.mul_le_mul_right _ hk
    have hcs' : k * size ≤ cur.size := Nat.le_trans (Nat.mul_le_mul_right _ (Nat.le_trans hk hnc)) hcs
    refine ⟨by rw [List.length_take, hl]; omega, .inr ⟨g, k, cur, rfl, hg, Nat.le_refl _, by omega, hcs', ?_⟩⟩
    rw [← htake, List.take_take, Nat.min_eq_left hks]
/-- One element stored in place. -/
theorem On.store {g cap : Nat} (h : On w e 1 (.slice (some ⟨g, 0, none⟩) n cap) n xs) (k : Nat) (u : Value) : On (w.setCell ⟨g, k, none⟩ u) e 1 (.slice (some ⟨g, 0, none⟩) n cap) n (xs.set k u) := by
  have hl := h.1
  rcases h.2 with ⟨hv, _⟩ | ⟨g', cap', cur, hv, hg, hnc, hcm, hcs, htake⟩
  · cases hv
  · cases hv
    refine ⟨by rw [List.length_set]; exact hl, .inr ⟨g, cap, cur.setIfInBounds k u, rfl, ?_, hnc, hcm, by simpa using hcs, ?_⟩⟩
    · exact Blk.set_ (t := e) hg k u
    · rw [← htake, Array.toList_setIfInBounds, List.take_set]
end

/-! ### append -/
section
variable {P : Program} (w : World)
theorem run_append_room_on (t ty e : TypeId) (i : TypeInfo) (ht : P.underlying t = some (.slice e)) (hi : P.info? e = some i)
    (g n cap : Nat) (hroom : n ≤ cap) (x : Value) (hx : ∃ A c, x = .slice A 0 c) :
    (Builtin.append_ #[t, t] ty #[.slice (some ⟨g, 0, none⟩) n cap, x]).run P w = .ok (.slice (some ⟨g, 0, none⟩) n cap) w := by
  obtain ⟨A, c, rfl⟩ := hx
  cases A with
  | none => simp [Builtin.append_, run_underlying ht, sizeOf, typeInfo, hi, Builtin.lenOf, Builtin.firstCells, hroom, storeCells]
  | some ad =>
    have hf := run_firstCells_some (P := P) w i.size 0 ad 0 c [] (by simp) (by simp)
    simp [Builtin.append_, run_underlying ht, sizeOf, typeInfo, hi, Builtin.lenOf, hroom, hf, storeCells]

theorem own_le {v v' : Value} {b n : Nat} (h : v'.ownBlock = v.ownBlock ∨ v'.ownBlock = some b) (hb : n ≤ b) : ∀ k, v'.ownBlock = some k → v.ownBlock = some k ∨ n ≤ k := fun k hk =>
  h.elim (fun e => .inl (e ▸ hk)) (fun e => .inr (by rw [e] at hk; cases hk; exact hb))

/-- The source: m elements whose cells are 'news', at an address if there is one. -/
def Src (w : World) (A : Option Addr) (m : Nat) (news : List Value) : Prop := (m = 0 ∧ news = []) ∨ ∃ ad, A = some ad ∧ ∀ j u, news[j]? = some u → w.cell? (ad.add j) = some u

/-- The source is the end of a slice at a block's head. -/
theorem src_drop {w : World} {e : TypeId} {g n cap : Nat} {xs : List Value} (h : On w e 1 (.slice (some ⟨g, 0, none⟩) n cap) n xs) (k : Nat) : Src w (some ⟨g, k, none⟩) (n - k) (xs.drop k) := by
  refine .inr ⟨_, rfl, fun j u hu => ?_⟩
  rcases h.form with ⟨hv, _⟩ | ⟨g', cap', hv, _, _, _, _, hc, _⟩
  · cases hv
  · cases hv
    have hadd : (⟨g, k, none⟩ : Addr).add j = ⟨g, k + j, none⟩ := by unfold Addr.add; split <;> simp_all
    rw [hadd]
    exact hc _ u (by rw [← hu, List.getElem?_drop])
theorem On.src {w : World} {e : TypeId} {size n c : Nat} {A : Option Addr} {xs : List Value} (h : On w e size (.slice A n c) n xs) : Src w A n xs := by
  rcases h.form with ⟨hv, hn, hx⟩ | ⟨g', cap', hv, _, _, _, _, hc, _⟩
  · exact .inl ⟨hn, hx⟩
  · cases hv
    refine .inr ⟨_, rfl, fun j u hu => ?_⟩
    have hadd : (⟨g', 0, none⟩ : Addr).add j = ⟨g', j, none⟩ := by unfold Addr.add; split <;> simp_all
    rw [hadd]
    exact hc _ u hu
/-- A new block of no cells. -/
theorem On.empty (w : World) (e : TypeId) (size : Nat) : On (w.alloc (.cells #[] e)) e size (.slice (some ⟨w.heap.size, 0, none⟩) 0 0) 0 [] :=
  ⟨by simp, .inr ⟨w.heap.size, 0, #[], rfl, heap_new w _, Nat.le_refl _, by simp [maxLen], by simp, by simp⟩⟩
theorem one_map (k : IntKind) (l : List Int) : ∀ u ∈ l.map (Value.int k), u.oneCell' = true := by
  intro u hu
  obtain ⟨x, _, rfl⟩ := List.mem_map.1 hu
  rfl
theorem one_drop (k : IntKind) (l : List Int) (n : Nat) : ∀ u ∈ (l.map (Value.int k)).drop n, u.oneCell' = true := fun u hu => one_map k l u (List.mem_of_mem_drop hu)
theorem len_drop (k : IntKind) (l : List Int) (n : Nat) : ((l.map (Value.int k)).drop n).length = (l.length - n) * 1 := by simp
theorem Src.drewN {w : World} {A : Option Addr} {m : Nat} {news : List Value} (h : Src w A m news) (k : Nat) : Src (w.drewN k) A m news := h
theorem Src.drew {w : World} {A : Option Addr} {m : Nat} {news : List Value} (h : Src w A m news) : Src w.drew A m news := h

theorem run_append_on (t ty e : TypeId) (i : TypeInfo) (z : Value) (size bytes : Nat) (ht : P.underlying t = some (.slice e)) (hi : P.info? e = some i) (hz : i.zero = some z)
    (hsize : i.size = size) (hby : i.bytes = bytes) (hzs : z.cells.size = size) (hsz : 0 < size)
    (v : Value) (n : Nat) (xs : List Value) (hown : On w e size v n xs)
    (A : Option Addr) (m c : Nat) (news : List Value) (hl : news.length = m * size) (hnews : Src w A m news) (h1 : ∀ u ∈ news, u.oneCell' = true)
    (h63 : n + m ≤ maxLen) (hbytes : (n + m) * bytes ≤ 140737488355328) :
    ∃ v' w', (Builtin.append_ #[t, t] ty #[v, .slice A m c]).run P w = .ok v' w' ∧ On w' e size v' (n + m) (xs ++ news) ∧ w.grownBy w' v.ownBlock ∧
      (v'.ownBlock = v.ownBlock ∨ v'.ownBlock = some w.heap.size) := by
  subst hsize
  subst hby
  have hsmall : n + m ≤ 9223372036854775807 := by simp only [maxLen] at h63; omega
  have hlen : (xs ++ news).length = (n + m) * i.size := by rw [List.length_append, hown.1, hl, Nat.add_mul]
  by_cases hm : m = 0
  · subst hm
    have hn : news = [] := List.eq_nil_of_length_eq_zero (by simpa using hl)
    subst hn
    have hself := hown
    rcases hown.2 with ⟨rfl, rfl⟩ | ⟨g, cap, cur, rfl, hg, hnc, hcm, hcs, htake⟩
    · refine ⟨.slice none 0 0, w, ?_, by simpa using hself, ⟨rfl, rfl, rfl, Nat.le_refl _, fun _ _ _ => rfl⟩, .inl rfl⟩
      cases A with
      | none => simp [Builtin.append_, run_underlying ht, sizeOf, typeInfo, hi, Builtin.lenOf, Builtin.firstCells]
      | some ad => simp [Builtin.append_, run_underlying ht, sizeOf, typeInfo, hi, Builtin.lenOf, Builtin.firstCells, loadCells, loadCellsFrom]
    · exact ⟨_, w, run_append_room_on w t ty e i ht hi g n cap hnc _ ⟨A, c, rfl⟩, by simpa using hself, ⟨rfl, rfl, rfl, Nat.le_refl _, fun _ _ _ => rfl⟩, .inl rfl⟩
  · obtain ⟨ad, rfl, hcells⟩ : ∃ ad, A = some ad ∧ ∀ j u, news[j]? = some u → w.cell? (ad.add j) = some u := by
      rcases hnews with ⟨h0, _⟩ | h2
      · exact absurd h0 hm
      · exact h2
    have grown : ∀ (old : Nat), old < n + m → ∀ (row : Option Nat),
        On (w.drew.alloc (.cells (xs.toArray ++ news.toArray ++ Builtin.zeroCells z.cells (grownCap w (n + m) old e - (n + m))) e)) e i.size
          (.slice (some ⟨w.heap.size, 0, none⟩) (n + m) (grownCap w (n + m) old e)) (n + m) (xs ++ news) ∧
        w.grownBy (w.drew.alloc (.cells (xs.toArray ++ news.toArray ++ Builtin.zeroCells z.cells (grownCap w (n + m) old e - (n + m))) e)) row := by
      intro old ho row
      have hge := grownCap_ge w (n + m) old e
      have hcm : grownCap w (n + m) old e ≤ maxLen := grownCap_le_maxLen w (n + m) old e h63
      refine ⟨⟨hlen, .inr ⟨w.heap.size, _, _, rfl, heap_new w.drew _, hge, hcm, ?_, ?_⟩⟩, ⟨rfl, rfl, rfl, by simp, fun k hk _ => heap_old w.drew _ hk⟩⟩
      · simp only [Array.size_append, List.size_toArray, size_zeroCells, hzs, hown.1, hl, ← Nat.add_mul]
        apply Nat.mul_le_mul_right
        omega
      · simp only [Array.toList_append, List.append_assoc]
        rw [← List.append_assoc, ← hlen]
        exact List.take_left
    rcases hown.2 with ⟨rfl, rfl⟩ | ⟨g, cap, cur, rfl, hg, hnc, hcm, hcs, htake⟩
    · have hx : xs = [] := List.eq_nil_of_length_eq_zero (by simpa using hown.1)
      subst hx
      have hr := run_append_nil (P := P) w t ty e i z ht hi hz ad m c news hl hcells (by omega) (by omega) (by have hb := hbytes; simp only [Nat.zero_add] at hb; omega)
      have hgr := grown 0 (by omega) (Value.ownBlock (.slice none 0 0))
      simp only [Nat.zero_add, List.nil_append, Array.empty_append] at hgr ⊢
      exact ⟨_, _, hr, hgr.1, hgr.2, .inr rfl⟩
    · by_cases hroom : n + m ≤ cap
      · have hfit : n * i.size + news.length ≤ cur.size := by rw [hl, ← Nat.add_mul]; exact Nat.le_trans (Nat.mul_le_mul_right _ hroom) hcs
        have hr := run_append_room (P := P) w t ty e i ht hi g n cap cur hg ad m c news hl hcells h1 hroom hfit
        refine ⟨_, _, hr, ⟨hlen, .inr ⟨g, cap, _, rfl, setRow_heap w g cur _ e _ hg, hroom, hcm, ?_, ?_⟩⟩, ⟨rfl, rfl, rfl, by simp, fun k _ hk => setRow_other w g k _ (fun e => hk (by simp [Value.ownBlock, e]))⟩, .inl rfl⟩
        · simp only [List.size_toArray, List.length_append, List.length_take, List.length_drop, Array.length_toList]
          omega
        · rw [htake, ← hlen]
          exact List.take_left
      · have holds : ∀ j u, xs[j]? = some u → w.cell? ((⟨g, 0, none⟩ : Addr).add j) = some u := by
          intro j u hu
          have hadd : (⟨g, 0, none⟩ : Addr).add j = ⟨g, j, none⟩ := by unfold Addr.add; split <;> simp_all
          rw [hadd, cell_of_row w g j cur e (0, 0) hg]
          rw [← htake, List.getElem?_take] at hu
          split at hu
          · simpa using hu
          · cases hu
        have hr := run_append_grow (P := P) w t ty e i z ht hi hz ⟨g, 0, none⟩ n cap xs hown.1 holds ad m c news hl hcells (by omega) (by omega) (growslice_fits (by omega) hbytes)
        have hgr := grown cap (by omega) (Value.ownBlock (.slice (some ⟨g, 0, none⟩) n cap))
        exact ⟨_, _, hr, hgr.1, hgr.2, .inr rfl⟩

theorem wp_append_on {o : Oper} {a : Act} {K : Act → World → Prop} {Q : Exit → Act → World → Prop} (s x : Operand) (t : TypeId)
    (ho : o.op = .call { callee := .builtin .append, args := #[s, x], argTypes := #[t, t] })
    (e : TypeId) (i : TypeInfo) (z : Value) (size bytes : Nat) (ht : P.underlying t = some (.slice e)) (hi : P.info? e = some i) (hz : i.zero = some z)
    (hsize : i.size = size) (hby : i.bytes = bytes) (hzs : z.cells.size = size) (hsz : 0 < size)
    (v : Value) (n : Nat) (xs : List Value) (hs : a.eval s = v) (hown : On w e size v n xs)
    (A : Option Addr) (m c : Nat) (news : List Value) (hx : a.eval x = .slice A m c) (hl : news.length = m * size) (hnews : Src w A m news) (h1 : ∀ u ∈ news, u.oneCell' = true)
    (h63 : n + m ≤ maxLen) (hbytes : (n + m) * bytes ≤ 140737488355328)
    (h : ∀ v' w', On w' e size v' (n + m) (xs ++ news) → w.grownBy w' v.ownBlock → (v'.ownBlock = v.ownBlock ∨ v'.ownBlock = some w.heap.size) → K (a.put o.dst v') w') : o.wp P a w K Q := by
  obtain ⟨v', w', hrun, h2, h3, h4⟩ := run_append_on (P := P) w t o.type e i z size bytes ht hi hz hsize hby hzs hsz v n xs hown A m c news hl hnews h1 h63 hbytes
  unfold Oper.wp execOp
  simp only [ho, resolve, invoke, builtin, Sem.run_bind, Sem.run_pure, Result.andThen_ok, List.map_toArray, List.map_cons, List.map_nil, hs, hx, hrun]
  exact h v' w' h2 h3 h4

theorem wpList_append_on {ops : Array Oper} {rest : List Oper} {o : Oper} {a : Act} {Q : Exit → Act → World → Prop} (hgd : o.guard = none) (s x : Operand) (t : TypeId)
    (ho : o.op = .call { callee := .builtin .append, args := #[s, x], argTypes := #[t, t] })
    (e : TypeId) (i : TypeInfo) (z : Value) (size bytes : Nat) (ht : P.underlying t = some (.slice e)) (hi : P.info? e = some i) (hz : i.zero = some z)
    (hsize : i.size = size) (hby : i.bytes = bytes) (hzs : z.cells.size = size) (hsz : 0 < size)
    (v : Value) (n : Nat) (xs : List Value) (hs : a.eval s = v) (hown : On w e size v n xs)
    (A : Option Addr) (m c : Nat) (news : List Value) (hx : a.eval x = .slice A m c) (hl : news.length = m * size) (hnews : Src w A m news) (h1 : ∀ u ∈ news, u.oneCell' = true)
    (h63 : n + m ≤ maxLen) (hbytes : (n + m) * bytes ≤ 140737488355328)
    (h : ∀ v' w', On w' e size v' (n + m) (xs ++ news) → w.grownBy w' v.ownBlock → (v'.ownBlock = v.ownBlock ∨ v'.ownBlock = some w.heap.size) → wpList P ops Q rest (a.put o.dst v') w') : wpList P ops Q (o :: rest) a w :=
  wpList_plain hgd fun _ hK => wp_append_on w s x t ho e i z size bytes ht hi hz hsize hby hzs hsz v n xs hs hown A m c news hx hl hnews h1 h63 hbytes fun v' w' h2 h3 h4 => hK _ _ (h v' w' h2 h3 h4)

theorem step_append_on {ops : Array Oper} {o : Oper} {a : Act} {K : Act → World → Prop} {Q : Exit → Act → World → Prop} {E : Prop} (hgd : o.guard = none) (s x : Operand) (t : TypeId)
    (ho : o.op = .call { callee := .builtin .append, args := #[s, x], argTypes := #[t, t] })
    (e : TypeId) (i : TypeInfo) (z : Value) (size bytes : Nat) (ht : P.underlying t = some (.slice e)) (hi : P.info? e = some i) (hz : i.zero = some z)
    (hsize : i.size = size) (hby : i.bytes = bytes) (hzs : z.cells.size = size) (hsz : 0 < size)
    (v : Value) (n : Nat) (xs : List Value) (hs : a.eval s = v) (hown : On w e size v n xs)
    (A : Option Addr) (m c : Nat) (news : List Value) (hx : a.eval x = .slice A m c) (hl : news.length = m * size) (hnews : Src w A m news) (h1 : ∀ u ∈ news, u.oneCell' = true)
    (h63 : n + m ≤ maxLen) (hbytes : (n + m) * bytes ≤ 140737488355328)
    (h : ∀ v' w', On w' e size v' (n + m) (xs ++ news) → w.grownBy w' v.ownBlock → (v'.ownBlock = v.ownBlock ∨ v'.ownBlock = some w.heap.size) → K (a.put o.dst v') w') :
    if Region.wanted o (yielded ops a.tmps) = true then Oper.wp P o a w K Q else E := by
  have hw : Region.wanted o (yielded ops a.tmps) = true := by simp [Region.wanted, hgd]
  rw [if_pos hw]
  exact wp_append_on w s x t ho e i z size bytes ht hi hz hsize hby hzs hsz v n xs hs hown A m c news hx hl hnews h1 h63 hbytes h
end

/-- A slice of numbers that came in. -/
def Row (k : IntKind) (w : World) (a : Option Addr) (len : Nat) (zs : List Int) : Prop :=
  zs.length = len ∧ (0 < len → ∃ b off, a = some ⟨b, off, none⟩ ∧ b < w.heap.size ∧ ∀ j, j < len → w.cell? ⟨b, off + j, none⟩ = some (.int k (nth zs j)))
theorem Row.below {k : IntKind} {w w' : World} {a : Option Addr} {len : Nat} {zs : List Int} (h : Row k w a len zs) (hb : Below w.heap.size w w') : Row k w' a len zs :=
  ⟨h.1, fun hp => by
    obtain ⟨b, off, e, hlt, hc⟩ := h.2 hp
    exact ⟨b, off, e, Nat.lt_of_lt_of_le hlt hb.size, fun j hj => (hb.cell (p := ⟨b, off + j, none⟩) hlt).trans (hc j hj)⟩⟩


end Go.Proofs.Ytckkpgopddnkiaa
namespace Go.Proofs.Ytckkpgopddnkiaa
open Go.RowKit Go.ChangeShapes Go.WideShapes Go.ChangeAt

theorem open_row {H : Type} {enc : TypeId × Value → H} {P : Program} {W : World} {base : Nat} {spare : Nat → Bool} {held : Bool} {t e : TypeId} {k : IntKind} {r : Reach} {b0 : Nat} {v : Value} {d : DataW H} {p : List MemPlace}
    (ht : P.underlying t = some (.slice e)) (he : P.underlying e = some (.int k)) (hc : P.cellsOf e = 1) (hv : Value.okWide P W r b0 t v) (h : DataW.Trod enc P W base spare held t v d p) :
    ∃ a len cap zs, v = .slice a len cap ∧ len ≤ cap ∧ cap ≤ maxLen ∧ Row k W a len zs ∧ ∀ n ∈ zs, (Lit.int k n).wf = true := by
  obtain ⟨a0, len0, cap0, rfl⟩ := okWide_slice ht hv
  obtain ⟨fuel, hf⟩ := h
  rcases open_ints ht he hc hf with ⟨hcs, _⟩ | ⟨x, l, c, zs, hcs, _, hl, hm, hz, _, hcell, hwz⟩
  · simp [Value.cells] at hcs
    obtain ⟨rfl, rfl, rfl⟩ := hcs
    exact ⟨none, 0, 0, [], rfl, Nat.le_refl _, by simp [maxLen], ⟨rfl, fun h => by omega⟩, fun n hn => by cases hn⟩
  · simp [Value.cells] at hcs
    obtain ⟨rfl, rfl, rfl⟩ := hcs
    have hzl : len0 ≤ zs.length := by rw [hz]; split <;> omega
    refine ⟨some x, len0, cap0, zs.take len0, rfl, hl, hm, ⟨by simp; omega, fun hp => ?_⟩, fun n hn => hwz n (List.mem_of_mem_take hn)⟩
    obtain ⟨b, off, spot⟩ := x
    have c0 := hcell 0 (by omega)
    have hspot : spot = none := by simpa [Addr.add] using World.cell?_spot c0
    subst hspot
    have hadd : ∀ j, (⟨b, off, none⟩ : Addr).add j = ⟨b, off + j, none⟩ := fun j => by unfold Addr.add; split <;> simp_all
    refine ⟨b, off, rfl, ?_, fun j hj => ?_⟩
    · have := World.block_lt_of_cell? W _ c0
      rw [hadd] at this
      exact this
    · have hcj := hcell j (by omega)
      rw [hadd] at hcj
      rw [hcj]
      simp [nth, List.getD, hj]
end Go.Proofs.Ytckkpgopddnkiaa
namespace Go.Proofs.Ytckkpgopddnkiaa
set_option linter.all false

/-- The i-th digit. -/
def dig (n i : Nat) : Nat := n / 65536 ^ i % 65536
theorem dig_lt (n i : Nat) : dig n i < 65536 := Nat.mod_lt _ (by decide)
theorem pow_pos' (i : Nat) : 0 < 65536 ^ i := Nat.pow_pos (by decide)
theorem mod_succ (n i : Nat) : n % 65536 ^ (i + 1) = n % 65536 ^ i + 65536 ^ i * dig n i := by
  unfold dig; rw [Nat.pow_succ, Nat.mod_mul]
theorem div_succ (n i : Nat) : n / 65536 ^ i = dig n i + 65536 * (n / 65536 ^ (i + 1)) := by
  unfold dig
  rw [Nat.pow_succ, ← Nat.div_div_eq_div_mul]
  omega
theorem dig_big {n i : Nat} (h : n < 65536 ^ i) : dig n i = 0 := by unfold dig; rw [Nat.div_eq_of_lt h]
theorem dig_big' {n i j : Nat} (h : n < 65536 ^ i) (hj : i ≤ j) : dig n j = 0 := dig_big (Nat.lt_of_lt_of_le h (Nat.pow_le_pow_right (by decide) hj))

/-! addition -/
def car (m n i : Nat) : Nat := (m % 65536 ^ i + n % 65536 ^ i) / 65536 ^ i
theorem car_zero (m n : Nat) : car m n 0 = 0 := by simp [car, Nat.mod_one]
theorem car_le (m n i : Nat) : car m n i ≤ 1 := by
  unfold car
  have hp := pow_pos' i
  have a := Nat.mod_lt m hp
  have b := Nat.mod_lt n hp
  have : (m % 65536 ^ i + n % 65536 ^ i) / 65536 ^ i < 2 := (Nat.div_lt_iff_lt_mul hp).2 (by omega)
  omega
theorem div_add_car (m n i : Nat) : (m + n) / 65536 ^ i = m / 65536 ^ i + n / 65536 ^ i + car m n i := by
  unfold car
  have hp := pow_pos' i
  conv => lhs; rw [← Nat.div_add_mod m (65536 ^ i), ← Nat.div_add_mod n (65536 ^ i)]
  rw [show 65536 ^ i * (m / 65536 ^ i) + m % 65536 ^ i + (65536 ^ i * (n / 65536 ^ i) + n % 65536 ^ i) = (m % 65536 ^ i + n % 65536 ^ i) + 65536 ^ i * (m / 65536 ^ i + n / 65536 ^ i) by rw [Nat.mul_add]; omega]
  rw [Nat.add_mul_div_left _ _ hp]
  omega
theorem add_dig (m n i : Nat) : (dig m i + dig n i + car m n i) % 65536 = dig (m + n) i := by
  have h := div_add_car m n i
  unfold dig
  rw [h]
  omega
theorem add_car (m n i : Nat) : (dig m i + dig n i + car m n i) / 65536 = car m n (i + 1) := by
  have h := div_add_car m n i
  have h1 := div_add_car m n (i + 1)
  have a := div_succ m i
  have b := div_succ n i
  have c := div_succ (m + n) i
  have d := add_dig m n i
  omega

/-! subtraction -/
def bor (m n i : Nat) : Nat := if m % 65536 ^ i < n % 65536 ^ i then 1 else 0
theorem bor_zero (m n : Nat) : bor m n 0 = 0 := by simp [bor, Nat.mod_one]
theorem bor_le (m n i : Nat) : bor m n i ≤ 1 := by unfold bor; split <;> omega
theorem div_sub_bor (m n i : Nat) (h : n ≤ m) : (m - n) / 65536 ^ i + n / 65536 ^ i + bor m n i = m / 65536 ^ i := by
  have hp := pow_pos' i
  have hm := Nat.div_add_mod m (65536 ^ i)
  have hn := Nat.div_add_mod n (65536 ^ i)
  have lm := Nat.mod_lt m hp
  have ln := Nat.mod_lt n hp
  generalize hB : 65536 ^ i = B at *
  have hq : n / B ≤ m / B := Nat.div_le_div_right h
  unfold bor
  rw [hB]
  split
  · rename_i hlt
    have hq2 : n / B + 1 ≤ m / B := by
      rcases Nat.lt_or_ge (n / B) (m / B) with h1 | h1
      · omega
      · have : m / B = n / B := by omega
        rw [this] at hm; omega
    obtain ⟨k, hk⟩ : ∃ k, m / B = n / B + 1 + k := ⟨m / B - (n / B + 1), by omega⟩
    have e : m - n = (B + m % B - n % B) + B * k := by
      rw [hk, Nat.mul_add, Nat.mul_add, Nat.mul_one] at hm; omega
    rw [e, Nat.add_mul_div_left _ _ hp, Nat.div_eq_of_lt (by omega), hk]; omega
  · rename_i hge
    obtain ⟨k, hk⟩ : ∃ k, m / B = n / B + k := ⟨m / B - n / B, by omega⟩
    have e : m - n = (m % B - n % B) + B * k := by
      rw [hk, Nat.mul_add] at hm; omega
    rw [e, Nat.add_mul_div_left _ _ hp, Nat.div_eq_of_lt (by omega), hk]; omega
theorem sub_dig (m n i : Nat) (h : n ≤ m) : (dig m i + 65536 - dig n i - bor m n i) % 65536 = dig (m - n) i := by
  have h1 := div_sub_bor m n i h
  have hb := bor_le m n i
  unfold dig
  omega
theorem sub_bor (m n i : Nat) (h : n ≤ m) : 1 - (dig m i + 65536 - dig n i - bor m n i) / 65536 = bor m n (i + 1) := by
  have h0 := div_sub_bor m n i h
  have h1 := div_sub_bor m n (i + 1) h
  have a := div_succ m i
  have b := div_succ n i
  have c := div_succ (m - n) i
  have hb := bor_le m n i
  have hb2 := bor_le m n (i + 1)
  have x := dig_lt m i
  have y := dig_lt n i
  have z := dig_lt (m - n) i
  omega

/-! comparison -/
theorem lt_of_dig {m n i : Nat} (h : m / 65536 ^ (i + 1) = n / 65536 ^ (i + 1)) (hd : dig m i < dig n i) : m < n := by
  have a := div_succ m i
  have b := div_succ n i
  have : m / 65536 ^ i < n / 65536 ^ i := by omega
  exact Nat.lt_of_not_le fun hle => absurd (Nat.div_le_div_right (c := 65536 ^ i) hle) (by omega)
theorem eq_of_dig {m n i : Nat} (h : m / 65536 ^ (i + 1) = n / 65536 ^ (i + 1)) (hd : dig m i = dig n i) : m / 65536 ^ i = n / 65536 ^ i := by
  have a := div_succ m i
  have b := div_succ n i
  omega

/-! product by a digit -/
theorem dig_mul_pow (x i j : Nat) : dig (65536 ^ i * x) (i + j) = dig x j := by
  unfold dig
  rw [Nat.pow_add, ← Nat.div_div_eq_div_mul, Nat.mul_div_cancel_left _ (pow_pos' i)]
theorem dig_mul_pow_lo (x i j : Nat) (h : j < i) : dig (65536 ^ i * x) j = 0 := by
  unfold dig
  obtain ⟨k, rfl⟩ : ∃ k, i = j + (k + 1) := ⟨i - j - 1, by omega⟩
  rw [Nat.pow_add, Nat.mul_assoc, Nat.mul_div_cancel_left _ (pow_pos' j), Nat.pow_succ, Nat.mul_assoc, Nat.mul_comm (65536 ^ k), Nat.mul_assoc]
  exact Nat.mul_mod_right _ _
/-- What is carried behind k digits. -/
def mcar (x b k : Nat) : Nat := x * (b % 65536 ^ k) / 65536 ^ k
theorem mcar_zero (x b : Nat) : mcar x b 0 = 0 := by simp [mcar, Nat.mod_one]
theorem mcar_le (x b k : Nat) (hx : x < 65536) : mcar x b k < 65536 := by
  unfold mcar
  have hp := pow_pos' k
  rw [Nat.div_lt_iff_lt_mul hp]
  have h := Nat.mod_lt b hp
  rcases Nat.eq_zero_or_pos (b % 65536 ^ k) with h0 | h0
  · rw [h0]; omega
  · calc x * (b % 65536 ^ k) ≤ x * 65536 ^ k := Nat.mul_le_mul_left _ (by omega)
      _ < 65536 * 65536 ^ k := Nat.mul_lt_mul_of_pos_right hx hp
theorem div_mul_mcar (x b k : Nat) : x * b / 65536 ^ k = x * (b / 65536 ^ k) + mcar x b k := by
  unfold mcar
  have hp := pow_pos' k
  conv => lhs; rw [← Nat.div_add_mod b (65536 ^ k)]
  rw [Nat.mul_add, Nat.add_comm, show x * (65536 ^ k * (b / 65536 ^ k)) = 65536 ^ k * (x * (b / 65536 ^ k)) by rw [Nat.mul_left_comm], Nat.add_mul_div_left _ _ hp]
  omega
theorem mul_dig (x b k : Nat) : (x * dig b k + mcar x b k) % 65536 = dig (x * b) k := by
  have h := div_mul_mcar x b k
  have hb := div_succ b k
  unfold dig at *
  rw [h]
  conv => rhs; rw [hb]
  rw [Nat.mul_add, show x * (65536 * (b / 65536 ^ (k + 1))) = 65536 * (x * (b / 65536 ^ (k + 1))) by rw [Nat.mul_left_comm]]
  omega
theorem mul_car (x b k : Nat) : (x * dig b k + mcar x b k) / 65536 = mcar x b (k + 1) := by
  have h := div_mul_mcar x b k
  have h1 := div_mul_mcar x b (k + 1)
  have hb := div_succ b k
  have d := mul_dig x b k
  have c := div_succ (x * b) k
  rw [hb, Nat.mul_add, show x * (65536 * (b / 65536 ^ (k + 1))) = 65536 * (x * (b / 65536 ^ (k + 1))) by rw [Nat.mul_left_comm]] at h
  omega
theorem mcar_end (x b k : Nat) (h : b < 65536 ^ k) : mcar x b k = dig (x * b) k ∨ ¬ x < 65536 := by
  by_cases hx : x < 65536
  · left
    have h1 := div_mul_mcar x b k
    rw [Nat.div_eq_of_lt h, Nat.mul_zero, Nat.zero_add] at h1
    have := mcar_le x b k hx
    unfold dig
    rw [h1]; omega
  · exact .inr hx

end Go.Proofs.Ytckkpgopddnkiaa
