/-
  The walks of backstayref09: At, Set, Put, Drop, Cut. Conditions: numbers and lengths without overflow.
-/
import Derived.Test.YtmipapfanelheaaRef09
namespace Go.Proofs.Ytmipapfanelheaa.Ref09
open Go.RowKit

/-- What a function of the document hands back: a ring whose list lies in memory of its own, or where it lay. -/
def RefTo (w : World) (sv : Value) (room first : Int) (l : List Int) (e : Ending) (w' : World) : Prop :=
  ∃ sv', e = .returned (rv room first sv') ∧ On w' 3 1 sv' l.length (l.map (.int .i64)) ∧ Below w.heap.size w w' ∧ ∀ k, sv'.ownBlock = some k → sv.ownBlock = some k ∨ w.heap.size ≤ k

/-- The parameter's box and the result's. -/
theorem boxes (w : World) (x : Array Value) : ∃ W, W = (w.alloc (.cells x 55)).alloc (.cells #[.int .i64 0, .int .i64 0, .slice none 0 0] 55) ∧ W.heap.size = w.heap.size + 2 ∧ Below w.heap.size w W ∧
    Blk W w.heap.size 55 x ∧ Blk W (w.heap.size + 1) 55 #[.int .i64 0, .int .i64 0, .slice none 0 0] := by
  refine ⟨_, rfl, by simp, ((Below.refl _ w).alloc (Nat.le_refl _) _).alloc (by simp) _, (Blk.new _ _ _).alloc _, ?_⟩
  have := Blk.new (w.alloc (.cells x 55)) 55 #[.int .i64 0, .int .i64 0, .slice none 0 0]
  simpa using this

def boxS (w : World) : Nat → Prop := fun k => k = w.heap.size ∨ k = w.heap.size + 1
theorem refTo {w W W' : World} {sv0 sv : Value} {room first : Int} {l : List Int} (hB : Below w.heap.size w W) (hF : On W 3 1 sv l.length (l.map (.int .i64)))
    (hO : ∀ k, sv.ownBlock = some k → (sv0.ownBlock = some k ∧ k < w.heap.size) ∨ w.heap.size + 2 ≤ k) (hT : Touch (boxS w) W W') : RefTo w sv0 room first l (.returned (rv room first sv)) W' :=
  ⟨sv, rfl, hF.touch hT (fun k hk hS => by rcases hO k hk with ⟨_, h⟩ | h <;> rcases hS with h2 | h2 <;> omega), hB.trans (hT.below hB.size (fun k hk => by rcases hk with h | h <;> omega)), fun k hk => (hO k hk).elim (fun h => .inl h.1) (fun h => .inr (by omega))⟩

def putF (room first : Int) (l : List Int) : Int := if room < (l.length : Int) + 1 then first + 1 else first
def putL (room : Int) (l : List Int) (v : Int) : List Int := if room < (l.length : Int) + 1 then (l ++ [v]).drop 1 else l ++ [v]

set_option maxRecDepth 100000 in
set_option maxHeartbeats 4000000 in
theorem put_any (w : World) (room first v : Int) (a : Option Addr) (c : Nat) (l : List Int) (h : On w 3 1 (.slice a l.length c) l.length (l.map (.int .i64))) (h0 : -4611686018427387904 ≤ first) (h1 : first ≤ 4611686018427387904) (hl : l.length ≤ 4096) :
    Calls Try.prog 38 #[rv room first (.slice a l.length c), .int .i64 v] w fun e w' => RefTo w (.slice a l.length c) room (putF room first l) (putL room l v) e w' := by
  obtain ⟨i0, hi0, hz0, hz1, hz2⟩ := info_parts RingInt.info
  obtain ⟨W1, hW1, hz1', hB1, hbox, hres⟩ := boxes w #[.int .i64 room, .int .i64 first, .slice a l.length c]
  have hs1 := h.below hB1 h.lt
  have p1 := part_any W1 a c l hs1 0 l.length (Nat.zero_le _) (Nat.le_refl _) (by omega)
  rw [show ((0 : Nat) : Int) = 0 from rfl] at p1
  simp only [List.drop_zero, Nat.sub_zero, List.take_length] at p1
  have p1' := Lib.hid p1
  have p2 : ∀ (W : World) (a' : Option Addr) (c' : Nat), On W 3 1 (.slice a' (l.length + 1) c') (l.length + 1) (l.map (.int .i64) ++ [.int .i64 v]) →
      Calls Try.prog 49 #[.slice a' (l.length + 1) c', .int .i64 1, .int .i64 ((l.length : Int) + 1)] W fun e w' => ∃ sv, e = .returned sv ∧ Fresh W w' sv ((l ++ [v]).drop 1) := by
    intro W a' c' hW
    have := part_any W a' c' (l ++ [v]) (by simpa using hW) 1 (l.length + 1) (by omega) (by simp) (by simp; omega)
    rw [show ((l ++ [v]).drop 1).take (l.length + 1 - 1) = (l ++ [v]).drop 1 from List.take_of_length_le (by simp)] at this
    simpa using this
  have p2 := Lib.hid p2
  clear p1
  unfold rv
  go_enter Try.func38, Try.ntmps38
  go_wp2_with fail
  rw [← hW1]
  have q2 := hbox.cell 2
  clear hW1
  go_wp2_with fail
  refine p1'.out.mono ?_
  rintro e W2 ⟨sv, rfl, hF, hB, hO⟩
  obtain ⟨a1, c1, rfl, hlc1, hcm1⟩ := hF.slice
  have hown := hF.alloc (.cells #[.int .i64 v] 3)
  have hne1 : some w.heap.size ≠ (Value.slice a1 l.length c1).ownBlock := fun e => by have := hO _ e.symm; omega
  have hne2 : some (w.heap.size + 1) ≠ (Value.slice a1 l.length c1).ownBlock := fun e => by have := hO _ e.symm; omega
  by_cases hc : room < (l.length : Int) + 1
  all_goals
    go_wp2_with (first
      | (at_builtin; refine wpList_append_on _ rfl (.tmp 11) (.tmp 13) _ rfl 3 i0 _ 1 8 Try.underlying42 hi0 hz0 hz1 hz2 rfl (by omega) (.slice a1 l.length c1) _ _ rfl hown _ 1 1 [.int .i64 v] rfl rfl (.inr ⟨_, rfl, cell_one_new _ _ _⟩) (by simp [Value.oneCell']) (by simp only [maxLen]; omega) (by omega) ?_; intro v' W3 hown1 hg1 hat1; obtain ⟨a', c', rfl, hlc', hcm'⟩ := hown1.slice; clear hown; have hbox3 := ((hbox.below hB (by omega)).alloc (.cells #[.int .i64 v] 3)).grown hg1 hne1; have hres3 := ((hres.below hB (by omega)).alloc (.cells #[.int .i64 v] 3)).grown hg1 hne2; have k0 := hbox3.cell 0; have k1 := hbox3.cell 1; have k2 := hbox3.cell 2; have f1 := hbox3.frozen 1; have f2 := hbox3.frozen 2; have g0 := hres3.cell 0; have g1 := hres3.cell 1; have g2 := hres3.cell 2; have e0 := hres3.frozen 0; have e1 := hres3.frozen 1; have e2 := hres3.frozen 2)
      | (refine (p2.out _ _ _ hown1).mono ?_; rintro e W4 ⟨sv4, rfl, hF4, hB4, hO4⟩; obtain ⟨a4, c4, rfl, hlc4, hcm4⟩ := hF4.slice; have hbox4 := hbox3.below hB4 hbox3.lt; have hres4 := hres3.below hB4 hres3.lt; have k0 := hbox4.cell 0; have k1 := hbox4.cell 1; have k2 := hbox4.cell 2; have f1 := hbox4.frozen 1; have f2 := hbox4.frozen 2; have g0 := hres4.cell 0; have g1 := hres4.cell 1; have g2 := hres4.cell 2; have e0 := hres4.frozen 0; have e1 := hres4.frozen 1; have e2 := hres4.frozen 2))
  · refine bodyPost_ret (v := rv room (first + 1) (.slice a4 (List.drop 1 (l ++ [v])).length c4)) (by simp [results, rv, Try.results38, go_sem, g0, g1, g2]) rfl ?_
    rw [putF, putL, if_pos hc, if_pos hc]
    refine refTo (W := W4) (((hB1.trans (hB.mono (by omega))).alloc (by have := hB.size; omega) _).grown hg1 ?_ ?_ |>.trans (hB4.mono ?_)) hF4 (fun k hk => .inr ?_) ?_
    · have := hB.size; simp; omega
    · exact fun k hk => by have := hO k hk; omega
    · have := hg1.size; have := hB.size; simp at *; omega
    · have := hO4 k hk; have := hg1.size; have := hB.size; simp at *; omega
    · repeat (refine Touch.setCell ?_ (Or.inl (by simp [boxS])) _)
      exact Touch.refl _ _
  · refine bodyPost_ret (v := rv room first (.slice a' (l.length + 1) c')) (by simp [results, rv, Try.results38, go_sem, g0, g1, g2]) rfl ?_
    rw [putF, putL, if_neg (by omega), if_neg (by omega)]
    refine refTo (W := W3) (((hB1.trans (hB.mono (by omega))).alloc (by have := hB.size; omega) _).grown hg1 ?_ ?_) (by simpa using hown1) (fun k hk => .inr ?_) ?_
    · have := hB.size; simp; omega
    · exact fun k hk => by have := hO k hk; omega
    · exact (own_le hat1 (n := w.heap.size + 2) (by have := hB.size; simp; omega) k hk).elim (fun e => by have := hO k e; omega) id
    · repeat (refine Touch.setCell ?_ (Or.inl (by simp [boxS])) _)
      exact Touch.refl _ _

set_option maxRecDepth 100000 in
set_option maxHeartbeats 4000000 in
theorem at_any (w : World) (room first n : Int) (a : Option Addr) (c : Nat) (l : List Int) (h : On w 3 1 (.slice a l.length c) l.length (l.map (.int .i64))) (h0 : 0 ≤ first) (h1 : first + l.length ≤ 4611686018427387904) (hn : n ≤ 9223372036854775807) :
    Calls Try.prog 27 #[rv room first (.slice a l.length c), .int .i64 n] w fun e w' => e = .returned (.tuple #[.int .i64 (RingInt.atV first l n), .int .i64 (RingInt.atE first l.length n)]) ∧ Below w.heap.size w w' := by
  have p := Lib.hid (fun W => next_any W room first a l.length c (by omega) h1)
  by_cases c1 : n < first
  · unfold rv
    rw [RingInt.atV, RingInt.atE, if_pos c1, if_pos c1]
    go_enter Try.func27, Try.ntmps27
    go_wp2_with fail
    go_ret2
    exact ⟨rfl, (Below.refl _ w).alloc (Nat.le_refl _) _⟩
  · by_cases c2 : first + (l.length : Int) ≤ n
    · rw [RingInt.atV, RingInt.atE, if_neg c1, if_neg c1, if_pos (by omega), if_pos (by omega)]
      unfold rv at p ⊢
      go_enter Try.func27, Try.ntmps27
      go_wp2_with fail
      refine (p.out _).mono ?_
      rintro e w1 ⟨rfl, hb⟩
      go_wp2_with fail
      go_ret2
      exact ⟨rfl, ((Below.refl _ w).alloc (Nat.le_refl _) _).trans (hb.mono (by simp))⟩
    · rw [RingInt.atV, RingInt.atE, if_neg c1, if_neg c1, if_neg (by omega), if_neg (by omega)]
      obtain ⟨j, hj⟩ : ∃ j : Nat, (n - first).toNat = j := ⟨_, rfl⟩
      obtain rfl : n = first + (j : Int) := by omega
      have hj1 : (j : Int) < (l.length : Int) := by omega
      rw [hj]
      obtain ⟨g, cap, e1, hg⟩ := h.ints (by omega)
      cases e1
      have hcj := hg j (by omega)
      have hgl := h.lt g rfl
      have hbox : Blk (w.alloc (.cells #[.int .i64 room, .int .i64 first, .slice (some ⟨g, 0, none⟩) l.length c] 55)) w.heap.size 55 _ := Blk.new _ _ _
      have hcj' := (Below.heap_alloc w (.cells #[.int .i64 room, .int .i64 first, .slice (some ⟨g, 0, none⟩) l.length c] 55) g hgl)
      have hj0 : (0 : Int) ≤ (j : Int) := by omega
      have hjm : first + (j : Int) ≤ 4611686018427387904 := by omega
      clear hg hj c1
      unfold rv at p ⊢
      go_enter Try.func27, Try.ntmps27
      go_wp2_with fail
      refine (p.out _).mono ?_
      rintro e w1 ⟨rfl, hb⟩
      have hbox1 := hbox.below hb hbox.lt
      have q1 := hbox1.cell 1
      have q2 := hbox1.cell 2
      have hc1 : w1.cell? ⟨g, j, none⟩ = some (.int .i64 (nth l j)) := (World.cell?_of_block (a := ⟨g, j, none⟩) ((hb.block g (by simp; omega)).trans hcj')).trans hcj
      have hsub : first + (j : Int) - first = (j : Int) := by omega
      go_wp2_with fail
      go_ret2
      exact ⟨rfl, ((Below.refl _ w).alloc (Nat.le_refl _) _).trans (hb.mono (by simp))⟩
end Go.Proofs.Ytmipapfanelheaa.Ref09
