/-
  Texts joined: RdI. No condition.
-/
import Derived.Test.YtckkpgopddnkiaaGreatBRp17
namespace Go.Proofs.YtckkpgopddnkiaaGreat.Rl
open Go.RowKit Go.Sort Go.Shelf Go.Proofs.YtckkpgopddnkiaaGreat.Gm Go.Proofs.YtckkpgopddnkiaaGreat.RingE Go.Proofs.YtckkpgopddnkiaaGreat.Inputq
set_option linter.all false

theorem fix_counts2 {c : Cfg} {x : H} (j : J c x) : (fixH x).ro ≤ x.ro + 1 ∧ (fixH x).re ≤ x.re + 16 := by
  have hf := j.fromH
  unfold fixH
  split
  · exact ⟨by show x.ro ≤ x.ro + 1; omega, by show x.re ≤ x.re + 16; omega⟩
  · refine ⟨Nat.le_refl _, ?_⟩
    show x.re + fixN x ≤ x.re + 16
    unfold fixN
    omega
theorem adv_counts2 {c : Cfg} {x : H} {v : Nat} (j : J c x) (hv : v < 65536) (hn : x.us.length < 110) :
    (advH c x v).us.length ≤ x.us.length + 1 ∧ (advH c x v).ro ≤ x.ro + 1 ∧ (advH c x v).re ≤ x.re + 16 := by
  unfold advH
  split
  · omega
  · have hc := fix_counts2 j
    exact ⟨Nat.le_of_eq (adv2_j0 j hv hn).2, hc.1, hc.2⟩
theorem thx_lt {c : Cfg} {x : H} (j : J0 c x) (f : Nat) : (thx x f).1 < 65536 ∧ (thx x f).2 < 65536 := ⟨th_lt j (by omega) f, th_lt j (by omega) f⟩
theorem InB.fix {c : Cfg} {x : H} (h : InB x.us) (j : J c x) : InB (fixH x).us := fun p hp => by
  obtain ⟨i, hi⟩ := List.mem_iff_getElem?.1 hp
  rw [fixH_get j] at hi
  split at hi
  · cases hi; exact thx_lt j.j0 i
  · exact h p (List.mem_of_getElem? hi)
theorem InB.adv {c : Cfg} {x : H} {v : Nat} (h : InB x.us) (j : J c x) (hv : v < 65536) : InB (advH c x v).us := by
  unfold advH
  split
  · exact h
  · obtain ⟨e1, e2, e3, e4, e5⟩ := adv1_same j v
    rw [adv_us c x v e5, e2]
    intro p hp
    rcases List.mem_append.1 hp with hp | hp
    · exact h.fix j p hp
    · rw [List.mem_singleton.1 hp]
      exact thx_lt (adv1_j0 j hv) _
theorem InB.addR {c : Cfg} {x : H} {v : Nat} (h : InB x.us) : InB (addHR c x v).us := by
  unfold addHR
  split
  · exact h
  · exact h

/-- The engine beside the document's. -/
structure DD (w wr : World) (cf : Cfg) (g : Nat) (s : SE) (x : H) (y : DV) (K : Nat) : Prop where
  ea : s.g = g
  ha : HAt wr cf s x
  j : J cf x
  dc : Doc wr y x
  ap : ∀ k, y.own k → ¬ fpE s k
  lo : Below w.heap.size w wr
  ba : ∀ k, fpE s k → w.heap.size ≤ k
  un : x.us.length ≤ K ∧ x.ro ≤ K ∧ x.re ≤ 200 * K
  ib : InB x.us
section
variable {w wr W w1 w2 : World} {cf : Cfg} {g : Nat} {s : SE} {x x' : H} {y y' : DV} {K K' : Nat}
theorem DD.below (h : DD w wr cf g s x y K) (hb : Below wr.heap.size wr W) : DD w W cf g s x y K :=
  { h with ha := h.ha.below hb, dc := h.dc.below hb, lo := h.lo.trans (hb.mono h.lo.size) }
theorem DD.up (h : DD w wr cf g s x y K) : DD w wr cf g s x y (K + 1) := { h with un := by have := h.un; omega }
/-- What turned: blocks of the engine alone, others are new. -/
def Tn (s s' : SE) (wr W : World) : Prop := Touch (fpE s) wr W ∧ ∀ k, fpE s' k → fpE s k ∨ wr.heap.size ≤ k
theorem Tn.refl (s : SE) (w : World) : Tn s s w w := ⟨Touch.refl _ _, fun k hk => .inl hk⟩
theorem Tn.trans {s s1 s2 : SE} {a b c : World} (h : Tn s s1 a b) (h2 : Tn s1 s2 b c) : Tn s s2 a c :=
  ⟨h.1.trans h2.1 h.2, fun k hk => (h2.2 k hk).elim (h.2 k) (fun e => .inr (Nat.le_trans h.1.size e))⟩
theorem Tn.below {s s1 : SE} {a b c : World} (h : Tn s s1 a b) (hb : Below b.heap.size b c) : Tn s s1 a c :=
  ⟨h.1.trans (Touch.of_below (S := fun _ => False) hb) (fun k hk => hk.elim), h.2⟩
theorem Tn.pre {s s1 : SE} {a b c : World} (hb : Below a.heap.size a b) (h : Tn s s1 b c) : Tn s s1 a c :=
  ⟨(Touch.of_below (S := fpE s) hb).trans h.1 (fun k hk => .inl hk), fun k hk => (h.2 k hk).imp id (fun e => Nat.le_trans hb.size e)⟩
theorem Tn.blk {s s1 : SE} {a b : World} (h : Tn s s1 a b) {k : Nat} {t : TypeId} {cs : Array Value} (hk : Blk a k t cs) (hA : HAt a cf s x)
    (ht : t ≠ 78 ∧ t ≠ 107 ∧ t ≠ 125 ∧ t ≠ 31 ∧ t ≠ 102 ∧ t ≠ 123 ∧ t ≠ 98) : Blk b k t cs :=
  hk.touch h.1 (hA.other hk ht)
/-- A call of the document, then one of the program. -/
theorem DD.next (h : DD w wr cf g s x y K) (hd : Doc w1 y' x') (hn : DNew wr w1 y y') (ht : HTurn w1 cf s x' w2) (j' : J cf x') (ib' : InB x'.us) (un' : x'.us.length ≤ K' ∧ x'.ro ≤ K' ∧ x'.re ≤ 200 * K') :
    ∃ s', DD w w2 cf g s' x' y' K' ∧ Tn s s' wr w2 ∧ Tn s s' w1 w2 := by
  obtain ⟨s', es, hA, hT, hF⟩ := ht.at
  have hsz := hn.1.size
  have hTw : Touch (fpE s) wr w2 := (Touch.of_below (S := fpE s) hn.1).trans hT (fun k hk => .inl hk)
  have hown : ∀ k, y'.own k → ¬ fpE s k := fun k hk h2 => by
    rcases hn.2 k hk with a | a
    · exact h.ap k a h2
    · have := h.ha.lt k h2; omega
  have hF' : ∀ k, fpE s' k → fpE s k ∨ wr.heap.size ≤ k := fun k hk => (hF k hk).imp id (fun e => by omega)
  refine ⟨s', ⟨es.1.trans h.ea, hA, j', hd.touch hT hown, fun k hk h2 => ?_, h.lo.trans (hTw.below h.lo.size h.ba), fun k hk => ?_, un', ib'⟩, ⟨hTw, hF'⟩, hT, hF⟩
  · rcases hF k h2 with a | a
    · exact hown k hk a
    · have := hd.lt k hk; omega
  · rcases hF' k hk with a | a
    · exact h.ba k a
    · exact Nat.le_trans h.lo.size a
theorem DD.advP (h : DD w wr cf g s x y K) (hK : K < 100) (u : Nat) (hu : u < 65536) : ∀ W, HAt W cf s x → Calls Tryz.prog 15 #[.pointer (some ⟨g, 0, none⟩), .int .u16 (u : Int)] W fun e w' => e = .returned (.int .i64 (advE cf x)) ∧ HTurn W cf s (advH cf x u) w' := fun W hA => by
  have hun := h.un
  have := advance_h W cf s x u K hA h.j hu (by omega) (by omega) hun.2.1 hun.2.2
  rw [h.ea] at this
  exact this
theorem DD.fixP (h : DD w wr cf g s x y K) (hK : K < 100) : ∀ W, HAt W cf s x → Calls Tryz.prog 35 #[.pointer (some ⟨g, 0, none⟩)] W fun e w' => e = .returned (.int .i64 (fixN x : Int)) ∧ HTurn W cf s (fixH x) w' := fun W hA => by
  have hun := h.un
  have := fix_h hA h.j K (by omega) hun.2.1 hun.2.2
  rw [h.ea] at this
  exact this
theorem DD.remP (h : DD w wr cf g s x y K) (u : Nat) : ∀ W, HAt W cf s x → Calls Tryz.prog 16 #[.pointer (some ⟨g, 0, none⟩), .int .u16 (u : Int)] W fun e w' => e = .returned (.tuple #[.int .i64 (addHN cf x), .int .i64 (addHC cf x)]) ∧ HTurn W cf s (addHR cf x u) w' := fun W hA => by
  have := addRemote_h hA h.j u
  rw [h.ea] at this
  exact this
theorem DD.advD (h : DD w wr cf g s x y K) (hK : K < 100) (u : Nat) (hu : u < 65536) : ∀ W, Doc W y x → Calls Tryz.prog 44 #[.agg (dE cf y x), .int .u16 (u : Int)] W fun e w' => ∃ y', e = .returned (.tuple #[.agg (dE cf y' (advH cf x u)), .bool (decide (¬ advT cf x))]) ∧ Doc w' y' (advH cf x u) ∧ DNew W w' y y' := fun W hd => by
  have hun := h.un
  exact radv_any W cf x y u hd h.j hu (by omega) (by omega) (by omega)
theorem DD.fixD (h : DD w wr cf g s x y K) (hK : K < 100) : ∀ W, Doc W y x → Calls Tryz.prog 45 #[.agg (dE cf y x)] W fun e w' => ∃ y', e = .returned (.tuple #[.agg (dE cf y' (fixH x)), .int .i64 (fixN x : Int)]) ∧ Doc w' y' (fixH x) ∧ DNew W w' y y' := fun W hd => by
  have hun := h.un
  exact rfix_any W cf x y hd h.j (by omega) (by omega)
theorem DD.remD (h : DD w wr cf g s x y K) (u : Nat) : ∀ W, Doc W y x → Calls Tryz.prog 46 #[.agg (dE cf y x), .int .u16 (u : Int)] W fun e w' => ∃ y', e = .returned (.tuple #[.agg (dE cf y' (addHR cf x u)), .bool (decide (¬ addHT cf x))]) ∧ Doc w' y' (addHR cf x u) ∧ DNew W w' y y' := fun W hd =>
  aremote_any W cf x y u hd h.j
end
end Go.Proofs.YtckkpgopddnkiaaGreat.Rl
