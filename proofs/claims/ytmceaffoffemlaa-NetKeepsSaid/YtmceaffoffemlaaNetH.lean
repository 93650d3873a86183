/-
  NetKeeps: what the law knows of the net and of its own list, and how the calls move it.
-/
import Derived.Test.YtmceaffoffemlaaNetE
import Derived.Test.YtmceaffoffemlaaNetF
import Derived.Test.YtmceaffoffemlaaNetG
namespace Go.Proofs.Ytmceaffoffemlaa.Netw
open Go.RowKit
set_option linter.all false

theorem on_ne {w : World} {e e' : TypeId} {size size' n n' : Nat} {v v' : Value} {xs xs' : List Value} (h : On w e size v n xs) (h' : On w e' size' v' n' xs') (hne : e ≠ e') : ∀ g, v.ownBlock = some g → v'.ownBlock ≠ some g := by
  intro g hg
  rcases h.2 with ⟨rfl, _⟩ | ⟨g1, cap, cur, rfl, hh, _⟩
  · simp [Value.ownBlock] at hg
  · have e1 : g1 = g := by simpa [Value.ownBlock] using hg
    subst e1
    exact h'.blk_ne (t := e) hh (fun e => hne e.symm)
/-- A row that reads: an argument's or a mail's. -/
theorem On.row {w : World} {e : TypeId} {a : Option Addr} {k : IntKind} {n c : Nat} {zs : List Int} (h : On w e 1 (.slice a n c) n (zs.map (.int k))) : Row k w a n zs := by
  have hl := h.1
  refine ⟨by simpa using hl, fun hp => ?_⟩
  rcases h.form with ⟨_, h0, _⟩ | ⟨g, cap, hv, _, _, _, hlt, hc, _⟩
  · omega
  · cases hv
    refine ⟨g, 0, rfl, hlt, fun j hj => ?_⟩
    rw [Nat.zero_add]
    refine hc j _ ?_
    have hj' : j < zs.length := by simp at hl; omega
    simp [nth, List.getD, hj']
abbrev R := Value × List Int
/-- One of the argument's slices: how it reads in the world at the beginning. -/
def Reads (w : World) (r : R) : Prop := ∃ a l c, r.1 = .slice a l c ∧ Row .u8 w a l r.2 ∧ l ≤ 9223372036854775807
structure Mails (W : World) (B : Nat) (es : List E) (ms : List R) : Prop where
  len : es.length = ms.length
  on : ∀ (j : Nat) (e : E) (r : R), es[j]? = some e → ms[j]? = some r → On W 5 1 e.1 r.2.length (r.2.map (.int .u8)) ∧ ∀ g, e.1.ownBlock = some g → B ≤ g
structure KI (w : World) (B n : Nat) (s : NS) (ms rs : List R) (lv : Value) (W : World) : Prop where
  net : NAt W n s
  ways : ∀ j, j < 4 → ∀ g, (s.v j).ownBlock = some g → B ≤ g
  mails : Mails W B (s.es 1) ms
  left : On W 27 1 lv rs.length (rs.map (·.1))
  own : ∀ g, lv.ownBlock = some g → B ≤ g
  below : Below B w W
  low : B ≤ n
  size : B ≤ W.heap.size
section
variable {w W W' : World} {B n : Nat} {s : NS} {ms rs : List R} {lv : Value}
theorem Mails.of_heap {es : List E} (h : Mails W B es ms) (hh : ∀ (j : Nat) (e : E) (r : R), es[j]? = some e → ms[j]? = some r → ∀ g, e.1.ownBlock = some g → W'.heap[g]? = W.heap[g]?) : Mails W' B es ms :=
  ⟨h.len, fun j e r he hr => ⟨(h.on j e r he hr).1.of_heap (hh j e r he hr), (h.on j e r he hr).2⟩⟩
theorem Mails.erase {es : List E} (h : Mails W B es ms) (m : Nat) : Mails W B (es.eraseIdx m) (ms.eraseIdx m) := by
  refine ⟨by simp only [List.length_eraseIdx, h.len], fun j e r he hr => ?_⟩
  rw [List.getElem?_eraseIdx] at he hr
  by_cases hj : j < m
  · rw [if_pos hj] at he hr; exact h.on j e r he hr
  · rw [if_neg hj] at he hr; exact h.on (j + 1) e r he hr
theorem Mails.snoc {es : List E} (h : Mails W B es ms) {e : E} {r : R} (h1 : On W 5 1 e.1 r.2.length (r.2.map (.int .u8))) (h2 : ∀ g, e.1.ownBlock = some g → B ≤ g) : Mails W B (es ++ [e]) (ms ++ [r]) := by
  refine ⟨by simp [h.len], fun j e' r' he hr => ?_⟩
  by_cases hj : j < es.length
  · rw [List.getElem?_append_left hj] at he
    rw [List.getElem?_append_left (by rw [← h.len]; exact hj)] at hr
    exact h.on j e' r' he hr
  · have hj2 := (List.getElem?_eq_some_iff.1 he).1
    have : j = es.length := by simp at hj2; omega
    subst this
    simp at he
    rw [h.len] at hr
    simp at hr
    subst he; subst hr
    exact ⟨h1, h2⟩
/-- The left list is laid anew; nothing else turns. -/
theorem KI.touch (h : KI w B n s ms rs lv W) {lv' : Value} {rs' : List R} (ht : Touch (fun g => lv.ownBlock = some g) W W') (hl : On W' 27 1 lv' rs'.length (rs'.map (·.1))) (ho : ∀ g, lv'.ownBlock = some g → lv.ownBlock = some g ∨ W.heap.size ≤ g) : KI w B n s ms rs' lv' W' := by
  refine ⟨⟨h.net.box.touch ht (h.left.blk_ne h.net.box (by decide)), fun k hk => (h.net.way k hk).touch ht (fun g hg e => on_ne h.left (h.net.way k hk) (by decide) g e hg), h.net.ne⟩, h.ways, ?_, hl, ?_, h.below.trans (ht.below h.size h.own), h.low, Nat.le_trans h.size ht.size⟩
  · exact h.mails.of_heap fun j e r he hr g hg => ht.block g ((h.mails.on j e r he hr).1.lt g hg) (fun e' => on_ne h.left (h.mails.on j e r he hr).1 (by decide) g e' hg)
  · exact fun g hg => (ho g hg).elim (h.own g) (fun e => Nat.le_trans h.size e)
theorem KI.after (h : KI w B n s ms rs lv W) (hb : Below W.heap.size W W') : KI w B n s ms rs lv W' :=
  h.touch (Touch.of_below hb) (h.left.below hb h.left.lt) (fun g hg => .inl hg)
theorem KI.send (h : KI w B n s ms rs lv W) {r : R} (hS : Sent W n s 1 r.2.length (r.2.map (.int .u8)) W') : ∃ s', KI w B n s' (ms ++ [r]) rs lv W' ∧ s'.moved = s.moved := by
  obtain ⟨dv, v3, hN, hD, hdv, hT, hv3⟩ := hS
  refine ⟨_, ⟨hN, ?_, ?_, ?_, h.own, ?_, h.low, Nat.le_trans h.size hT.size⟩, rfl⟩
  · intro j hj g hg
    by_cases hjk : j = 1
    · subst hjk
      rcases hv3 g hg with e | e
      · exact h.ways 1 (by omega) g e
      · exact Nat.le_trans h.size e
    · have : upd s.v 1 v3 j = s.v j := by simp [upd, hjk]
      exact h.ways j hj g (by rw [← this]; exact hg)
  · have h0 : Mails W' B (s.es 1) ms := h.mails.of_heap fun j e r he hr g hg => by
      refine hT.block g ((h.mails.on j e r he hr).1.lt g hg) ?_
      rintro (e' | e')
      · exact (h.mails.on j e r he hr).1.blk_ne h.net.box (by decide) (by rw [hg, e'])
      · exact on_ne (h.net.way 1 (by omega)) (h.mails.on j e r he hr).1 (by decide) g e' hg
    have e1 : (upd s.es 1 (s.es 1 ++ [(dv, 0)])) 1 = s.es 1 ++ [(dv, 0)] := by simp [upd]
    show Mails W' B ((upd s.es 1 (s.es 1 ++ [(dv, 0)])) 1) (ms ++ [r])
    rw [e1]
    exact h0.snoc hD (fun g hg => Nat.le_trans h.size (hdv g hg))
  · refine h.left.touch hT fun g hg => ?_
    rintro (e' | e')
    · exact h.left.blk_ne h.net.box (by decide) (by rw [hg, e'])
    · exact on_ne (h.net.way 1 (by omega)) h.left (by decide) g e' hg
  · exact h.below.trans (hT.below h.size (fun k hk => hk.elim (fun e => by rw [e]; exact h.low) (fun e => h.ways 1 (by omega) k e)))
theorem KI.move (h : KI w B n s ms rs lv W) {m : Nat} {mv : Int} (hS : MovedTo W n s 1 m mv W') : ∃ s', KI w B n s' (ms.eraseIdx m) rs lv W' ∧ s'.moved = mv := by
  obtain ⟨v3, hN, hT, hv3⟩ := hS
  refine ⟨_, ⟨hN, ?_, ?_, ?_, h.own, ?_, h.low, Nat.le_trans h.size hT.size⟩, rfl⟩
  · intro j hj g hg
    by_cases hjk : j = 1
    · subst hjk
      rcases hv3 g hg with e | e
      · exact h.ways 1 (by omega) g e
      · exact Nat.le_trans h.size e
    · have : upd s.v 1 v3 j = s.v j := by simp [upd, hjk]
      exact h.ways j hj g (by rw [← this]; exact hg)
  · have h0 : Mails W' B (s.es 1) ms := h.mails.of_heap fun j e r he hr g hg => by
      refine hT.block g ((h.mails.on j e r he hr).1.lt g hg) ?_
      rintro (e' | e')
      · exact (h.mails.on j e r he hr).1.blk_ne h.net.box (by decide) (by rw [hg, e'])
      · exact on_ne (h.net.way 1 (by omega)) (h.mails.on j e r he hr).1 (by decide) g e' hg
    have e1 : (upd s.es 1 ((s.es 1).eraseIdx m)) 1 = (s.es 1).eraseIdx m := by simp [upd]
    show Mails W' B ((upd s.es 1 ((s.es 1).eraseIdx m)) 1) (ms.eraseIdx m)
    rw [e1]
    exact h0.erase m
  · refine h.left.touch hT fun g hg => ?_
    rintro (e' | e')
    · exact h.left.blk_ne h.net.box (by decide) (by rw [hg, e'])
    · exact on_ne (h.net.way 1 (by omega)) h.left (by decide) g e' hg
  · exact h.below.trans (hT.below h.size (fun k hk => hk.elim (fun e => by rw [e]; exact h.low) (fun e => h.ways 1 (by omega) k e)))
/-- The mail that moved still lies there. -/
theorem moved_data (h : KI w B n s ms rs lv W) {m : Nat} {mv : Int} {e : E} {r : R} (hS : MovedTo W n s 1 m mv W') (he : (s.es 1)[m]? = some e) (hr : ms[m]? = some r) : On W' 5 1 e.1 r.2.length (r.2.map (.int .u8)) := by
  obtain ⟨v3, hN, hT, hv3⟩ := hS
  refine (h.mails.on m e r he hr).1.touch hT fun g hg => ?_
  rintro (e' | e')
  · exact (h.mails.on m e r he hr).1.blk_ne h.net.box (by decide) (by rw [hg, e'])
  · exact on_ne (h.net.way 1 (by omega)) (h.mails.on m e r he hr).1 (by decide) g e' hg
theorem KI.one (h : KI w B n s ms rs lv W) : ∀ e ∈ s.es 1, e.1.oneCell' = true := by
  intro e he
  obtain ⟨j, hj⟩ := List.getElem?_of_mem he
  have hlt := (List.getElem?_eq_some_iff.1 hj).1
  obtain ⟨r, hr⟩ : ∃ r, ms[j]? = some r := ⟨ms[j]'(by rw [← h.mails.len]; exact hlt), List.getElem?_eq_getElem _⟩
  obtain ⟨a, c, e1, _⟩ := (h.mails.on j e r hj hr).1.slice
  rw [e1]; rfl
end
end Go.Proofs.Ytmceaffoffemlaa.Netw
