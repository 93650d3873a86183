/-
  The walks of backstayref09: Set, Cut, Drop. Conditions: numbers and lengths without overflow.
-/
import Derived.Test.YtmipapfanelheaaRef09B
namespace Go.Proofs.Ytmipapfanelheaa.Ref09
open Go.RowKit

/-- The same, with an error's number. -/
def RefTo2 (w : World) (sv : Value) (room first : Int) (l : List Int) (code : Int) (e : Ending) (w' : World) : Prop :=
  ∃ sv', e = .returned (.tuple #[rv room first sv', .int .i64 code]) ∧ On w' 3 1 sv' l.length (l.map (.int .i64)) ∧ Below w.heap.size w w' ∧ ∀ k, sv'.ownBlock = some k → sv.ownBlock = some k ∨ w.heap.size ≤ k
theorem refTo2 {w W W' : World} {sv0 sv : Value} {room first code : Int} {l : List Int} (hB : Below w.heap.size w W) (hF : On W 3 1 sv l.length (l.map (.int .i64)))
    (hO : ∀ k, sv.ownBlock = some k → (sv0.ownBlock = some k ∧ k < w.heap.size) ∨ w.heap.size + 2 ≤ k) (hT : Touch (boxS w) W W') : RefTo2 w sv0 room first l code (.returned (.tuple #[rv room first sv, .int .i64 code])) W' :=
  ⟨sv, rfl, hF.touch hT (fun k hk hS => by rcases hO k hk with ⟨_, h⟩ | h <;> rcases hS with h2 | h2 <;> omega), hB.trans (hT.below hB.size (fun k hk => by rcases hk with h | h <;> omega)), fun k hk => (hO k hk).elim (fun h => .inl h.1) (fun h => .inr (by omega))⟩

theorem setL_of {first : Int} {l : List Int} {n v : Int} (h : RingInt.atE first l.length n ≠ 0) : RingInt.setL first l n v = l := by
  unfold RingInt.setL
  unfold RingInt.atE at h
  split
  · rfl
  · split
    · rfl
    · rw [if_neg (by assumption), if_neg (by assumption)] at h; exact absurd rfl h

set_option maxRecDepth 100000 in
set_option maxHeartbeats 4000000 in
theorem set_any (w : World) (room first n v : Int) (a : Option Addr) (c : Nat) (l : List Int) (h : On w 3 1 (.slice a l.length c) l.length (l.map (.int .i64))) (h0 : 0 ≤ first) (h1 : first + l.length ≤ 4611686018427387904) (hl : l.length ≤ 4096) (hn : n ≤ 9223372036854775807) :
    Calls Try.prog 39 #[rv room first (.slice a l.length c), .int .i64 n, .int .i64 v] w fun e w' => RefTo2 w (.slice a l.length c) room first (RingInt.setL first l n v) (RingInt.atE first l.length n) e w' := by
  obtain ⟨W1, hW1, hz1', hB1, hbox, hres⟩ := boxes w #[.int .i64 room, .int .i64 first, .slice a l.length c]
  have hs1 := h.below hB1 h.lt
  have p1 := Lib.hid (at_any W1 room first n a c l hs1 h0 h1 hn)
  by_cases hc : RingInt.atE first l.length n = 0
  · have hin : ¬ n < first ∧ ¬ n - first ≥ (l.length : Int) := by
      unfold RingInt.atE at hc
      split at hc
      · cases hc
      · split at hc
        · cases hc
        · exact ⟨by assumption, by assumption⟩
    rw [RingInt.setL, if_neg hin.1, if_neg hin.2]
    obtain ⟨j, hj⟩ : ∃ j : Nat, (n - first).toNat = j := ⟨_, rfl⟩
    obtain rfl : n = first + (j : Int) := by omega
    have hj1 : (j : Int) < (l.length : Int) := by omega
    rw [hj]
    have hj0 : (0 : Int) ≤ (j : Int) := by omega
    have hjm : first + (j : Int) ≤ 4611686018427387904 := by omega
    have p2 : ∀ (W : World), Below W1.heap.size W1 W → Calls Try.prog 49 #[.slice a l.length c, .int .i64 0, .int .i64 (l.length : Int)] W fun e w' => ∃ sv, e = .returned sv ∧ Fresh W w' sv l := by
      intro W hW
      have := part_any W a c l (hs1.below hW hs1.lt) 0 l.length (Nat.zero_le _) (Nat.le_refl _) (by omega)
      rw [show ((0 : Nat) : Int) = 0 from rfl] at this
      simpa using this
    have p2 := Lib.hid p2
    rw [hc] at p1 ⊢
    clear hin hj hc
    unfold rv at p1
    unfold rv
    go_enter Try.func39, Try.ntmps39
    go_wp2_with fail
    rw [← hW1]
    clear hW1
    have q0 := hbox.cell 0
    have q1 := hbox.cell 1
    have q2 := hbox.cell 2
    go_wp2_with fail
    refine p1.out.mono ?_
    rintro e W2 ⟨rfl, hB2⟩
    have hbox2 := hbox.below hB2 hbox.lt
    have hres2 := hres.below hB2 hres.lt
    have k1 := hbox2.cell 1
    have k2 := hbox2.cell 2
    go_wp2_with fail
    refine (p2.out _ hB2).mono ?_
    rintro e W3 ⟨sv, rfl, hF, hB3, hO⟩
    obtain ⟨g, cap, rfl, hg⟩ := hF.ints (by omega)
    have hgO := hO g rfl
    have hgs := hB2.size
    have hbox3 := hbox2.below hB3 hbox2.lt
    have hres3 := hres2.below hB3 hres2.lt
    have hcj := hg j (by omega)
    have hfj : W3.frozen? ⟨g, j, none⟩ = false := by
      rcases hF.form with ⟨e, _⟩ | ⟨g', cap', e, _, _, _, _, _, hf⟩
      · cases e
      · cases e; exact hf j
    have m0 := hbox3.cell 0
    have m1 := hbox3.cell 1
    have m2 := hbox3.cell 2
    have n0 := hbox3.frozen 2
    have g0 := hres3.cell 0
    have g1 := hres3.cell 1
    have g2 := hres3.cell 2
    have e0 := hres3.frozen 0
    have e1 := hres3.frozen 1
    have e2 := hres3.frozen 2
    have hd1 : g ≠ w.heap.size := by omega
    have hd2 : g ≠ w.heap.size + 1 := by omega
    have hsub : first + (j : Int) - first = (j : Int) := by omega
    clear hg
    go_wp2_with fail
    refine bodyPost_ret (v := .tuple #[rv room first (.slice (some ⟨g, 0, none⟩) l.length cap), .int .i64 0]) (by simp [results, rv, Try.results39, go_sem, g0, g1, g2]) rfl ?_
    have hst := hF.store j (.int .i64 v)
    rw [← List.map_set] at hst
    refine refTo2 (W := W3.setCell ⟨g, j, none⟩ (.int .i64 v)) ((hB1.trans ((hB2.mono (by omega)).trans (hB3.mono (by omega)))).setCell (p := ⟨g, j, none⟩) (by simp; omega) _) (by simpa using hst) (fun k hk => .inr ?_) ?_
    · have := hO k hk; omega
    · repeat (first | exact Touch.refl _ _ | refine Touch.setCell ?_ (Or.inl (by simp [boxS])) _)
  · rw [setL_of hc]
    unfold rv at p1
    unfold rv
    go_enter Try.func39, Try.ntmps39
    go_wp2_with fail
    rw [← hW1]
    clear hW1
    have q0 := hbox.cell 0
    have q1 := hbox.cell 1
    have q2 := hbox.cell 2
    go_wp2_with fail
    refine p1.out.mono ?_
    rintro e W2 ⟨rfl, hB2⟩
    have hbox2 := hbox.below hB2 hbox.lt
    have hres2 := hres.below hB2 hres.lt
    have k0 := hbox2.cell 0
    have k1 := hbox2.cell 1
    have k2 := hbox2.cell 2
    have g0 := hres2.cell 0
    have g1 := hres2.cell 1
    have g2 := hres2.cell 2
    have e0 := hres2.frozen 0
    have e1 := hres2.frozen 1
    have e2 := hres2.frozen 2
    go_wp2_with fail
    refine bodyPost_ret (v := .tuple #[rv room first (.slice a l.length c), .int .i64 (RingInt.atE first l.length n)]) (by simp [results, rv, Try.results39, go_sem, g0, g1, g2]) rfl ?_
    refine refTo2 (W := W2) (hB1.trans (hB2.mono (by omega))) (hs1.below hB2 hs1.lt) (fun k hk => .inl ⟨hk, h.lt k hk⟩) ?_
    repeat (refine Touch.setCell ?_ (Or.inl (by simp [boxS])) _)
    exact Touch.refl _ _

/-- How many are below a number. -/
def cutN (first : Int) (len : Nat) (n : Int) : Nat := if n < first + (len : Int) then (n - first).toNat else len
theorem cutN_le (first : Int) (len : Nat) (n : Int) : cutN first len n ≤ len := by unfold cutN; split <;> omega
theorem cutL_eq (first : Int) (l : List Int) (n : Int) : RingInt.cutL first l n = l.take (cutN first l.length n) := by
  unfold RingInt.cutL cutN
  split <;> simp

set_option maxRecDepth 100000 in
set_option maxHeartbeats 4000000 in
theorem cut_any (w : World) (room first n : Int) (a : Option Addr) (c : Nat) (l : List Int) (h : On w 3 1 (.slice a l.length c) l.length (l.map (.int .i64))) (h0 : 0 ≤ first) (h1 : first + l.length ≤ 4611686018427387904) (hl : l.length ≤ 4096) :
    Calls Try.prog 44 #[rv room first (.slice a l.length c), .int .i64 n] w fun e w' => RefTo w (.slice a l.length c) room first (RingInt.cutL first l n) e w' := by
  obtain ⟨W1, hW1, hz1', hB1, hbox, hres⟩ := boxes w #[.int .i64 room, .int .i64 first, .slice a l.length c]
  have hs1 := h.below hB1 h.lt
  have hle := cutN_le first l.length n
  rw [cutL_eq]
  have p1 := part_any W1 a c l hs1 0 (cutN first l.length n) (Nat.zero_le _) hle (by omega)
  rw [show ((0 : Nat) : Int) = 0 from rfl, List.drop_zero, Nat.sub_zero] at p1
  have hcut : ∀ k : Nat, k ≤ cutN first l.length n → (k < cutN first l.length n ↔ (k : Int) < (l.length : Int) ∧ first + (k : Int) < n) := by
    intro k hk
    unfold cutN at hk ⊢
    split <;> rename_i hs <;> (first | rw [if_pos hs] at hk | rw [if_neg hs] at hk) <;> omega
  obtain ⟨m, hm⟩ : ∃ m, m = cutN first l.length n := ⟨_, rfl⟩
  rw [← hm] at hle p1 hcut ⊢
  obtain ⟨l2, hl2⟩ : ∃ l2, l2 = l.take m := ⟨_, rfl⟩
  rw [← hl2] at p1 ⊢
  clear hl2
  have hcut' := Lib.hid hcut
  have p1' := Lib.hid p1
  clear hm hcut p1
  unfold rv
  go_enter Try.func44, Try.ntmps44
  go_wp2_with fail
  rw [← hW1]
  clear hW1
  have q0 := hbox.cell 0
  have q1 := hbox.cell 1
  have q2 := hbox.cell 2
  go_wp2_with fail
  go_loopw [5] (fun i wr => wr = W1 ∧ ∃ k : Nat, k ≤ m ∧ i = .int .i64 k) (fun i _ => m - (intOf i).toNat)
  case atStart => exact ⟨rfl, 0, Nat.zero_le _, rfl⟩
  case round =>
    obtain ⟨rfl, k, hk, rfl⟩ := hrel
    have hk0 := hcut'.out k hk
    have hsum : first + (k : Int) ≤ 4611686018427387904 := by omega
    have hk9 : (k : Int) ≤ 4096 := by omega
    by_cases hlt : k < m
    · obtain ⟨c1, c2⟩ := hk0.1 hlt
      clear hk0
      go_wp2_with fail
      go_roundw
      case rel => exact ⟨trivial, k + 1, by omega, by simp⟩
      case measure => simp [intOf]; omega
    · obtain rfl : k = m := by omega
      have hnot : ¬ ((k : Int) < (l.length : Int) ∧ first + (k : Int) < n) := fun e => hlt (hk0.2 e)
      have g0 := hres.cell 0
      have g1 := hres.cell 1
      have g2 := hres.cell 2
      have e0 := hres.frozen 0
      have e1 := hres.frozen 1
      have e2 := hres.frozen 2
      have f2 := hbox.frozen 2
      clear hk0
      by_cases c1 : (k : Int) < (l.length : Int)
      · have c2 : ¬ first + (k : Int) < n := fun e => hnot ⟨c1, e⟩
        clear hnot
        go_wp2_with fail
        refine p1'.out.mono ?_
        rintro e W3 ⟨sv, rfl, hF, hB3, hO⟩
        obtain ⟨a3, c3, rfl, hlc3, hcm3⟩ := hF.slice
        have hbox3 := hbox.below hB3 hbox.lt
        have hres3 := hres.below hB3 hres.lt
        clear q0 q1 q2 g0 g1 g2 e0 e1 e2 f2
        have m0 := hbox3.cell 0
        have m1 := hbox3.cell 1
        have m2 := hbox3.cell 2
        have n0 := hbox3.frozen 2
        have g0 := hres3.cell 0
        have g1 := hres3.cell 1
        have g2 := hres3.cell 2
        have e0 := hres3.frozen 0
        have e1 := hres3.frozen 1
        have e2 := hres3.frozen 2
        go_wp2_with fail
        refine bodyPost_ret (v := rv room first (.slice a3 l2.length c3)) (by simp [results, rv, Try.results44, go_sem, g0, g1, g2]) rfl ?_
        refine refTo (W := W3) (hB1.trans (hB3.mono (by omega))) hF (fun k hk => .inr ?_) ?_
        · have := hO k hk; omega
        · repeat (first | exact Touch.refl _ _ | refine Touch.setCell ?_ (Or.inl (by simp [boxS])) _)
      · clear hnot
        go_wp2_with fail
        refine p1'.out.mono ?_
        rintro e W3 ⟨sv, rfl, hF, hB3, hO⟩
        obtain ⟨a3, c3, rfl, hlc3, hcm3⟩ := hF.slice
        have hbox3 := hbox.below hB3 hbox.lt
        have hres3 := hres.below hB3 hres.lt
        clear q0 q1 q2 g0 g1 g2 e0 e1 e2 f2
        have m0 := hbox3.cell 0
        have m1 := hbox3.cell 1
        have m2 := hbox3.cell 2
        have n0 := hbox3.frozen 2
        have g0 := hres3.cell 0
        have g1 := hres3.cell 1
        have g2 := hres3.cell 2
        have e0 := hres3.frozen 0
        have e1 := hres3.frozen 1
        have e2 := hres3.frozen 2
        go_wp2_with fail
        refine bodyPost_ret (v := rv room first (.slice a3 l2.length c3)) (by simp [results, rv, Try.results44, go_sem, g0, g1, g2]) rfl ?_
        refine refTo (W := W3) (hB1.trans (hB3.mono (by omega))) hF (fun k hk => .inr ?_) ?_
        · have := hO k hk; omega
        · repeat (first | exact Touch.refl _ _ | refine Touch.setCell ?_ (Or.inl (by simp [boxS])) _)

/-- The list's length, read off the box. -/
def leftN (b : Nat) (W : World) : Nat := match W.cell? ⟨b, 2, none⟩ with | some (.slice _ n _) => n | _ => 0
theorem leftN_eq {b : Nat} {W : World} {a : Option Addr} {n c : Nat} (h : W.cell? ⟨b, 2, none⟩ = some (.slice a n c)) : leftN b W = n := by rw [leftN, h]

/-- How many are dropped. -/
def dropN (first : Int) (len : Nat) (n : Int) : Nat := if n ≤ first then 0 else min (n - first).toNat len
theorem dropN_le (first : Int) (len : Nat) (n : Int) : dropN first len n ≤ len := by unfold dropN; split <;> omega
theorem dropF_eq (first : Int) (len : Nat) (n : Int) : RingInt.dropF first len n = first + (dropN first len n : Int) := by unfold RingInt.dropF dropN; split <;> omega
theorem dropL_eq (first : Int) (l : List Int) (n : Int) : RingInt.dropL first l n = l.drop (dropN first l.length n) := by
  unfold RingInt.dropL dropN
  split
  · simp
  · by_cases h : (n - first).toNat ≤ l.length
    · rw [Nat.min_eq_left h]
    · rw [Nat.min_eq_right (by omega), List.drop_of_length_le (by omega), List.drop_of_length_le (Nat.le_refl _)]

/-- Between two rounds of Drop's loop. -/
def DropInv (w : World) (room first : Int) (l : List Int) (a0 : Option Addr) (c0 : Nat) (k : Nat) (W : World) : Prop :=
  ∃ (l2 : List Int) (a : Option Addr) (c : Nat), l2 = l.drop k ∧ Blk W w.heap.size 55 #[.int .i64 room, .int .i64 (first + (k : Int)), .slice a l2.length c] ∧ Blk W (w.heap.size + 1) 55 #[.int .i64 0, .int .i64 0, .slice none 0 0] ∧
    On W 3 1 (.slice a l2.length c) l2.length (l2.map (.int .i64)) ∧ Below w.heap.size w W ∧ (∀ b, (Value.slice a l2.length c).ownBlock = some b → ((Value.slice a0 l.length c0).ownBlock = some b ∧ b < w.heap.size) ∨ w.heap.size + 2 ≤ b)

set_option maxRecDepth 100000 in
set_option maxHeartbeats 4000000 in
theorem drop_any (w : World) (room first n : Int) (a : Option Addr) (c : Nat) (l : List Int) (h : On w 3 1 (.slice a l.length c) l.length (l.map (.int .i64))) (h0 : 0 ≤ first) (h1 : first + l.length ≤ 4611686018427387904) (hl : l.length ≤ 4096) :
    Calls Try.prog 42 #[rv room first (.slice a l.length c), .int .i64 n] w fun e w' => RefTo w (.slice a l.length c) room (RingInt.dropF first l.length n) (RingInt.dropL first l n) e w' := by
  obtain ⟨W1, hW1, hz1', hB1, hbox, hres⟩ := boxes w #[.int .i64 room, .int .i64 first, .slice a l.length c]
  have hs1 := h.below hB1 h.lt
  rw [dropF_eq, dropL_eq]
  have hle := dropN_le first l.length n
  have hcut : ∀ k : Nat, k ≤ dropN first l.length n → (k < dropN first l.length n ↔ 0 < l.length - k ∧ first + (k : Int) < n) := by
    intro k hk
    unfold dropN at hk ⊢
    split <;> rename_i hs <;> (first | rw [if_pos hs] at hk | rw [if_neg hs] at hk) <;> omega
  obtain ⟨m, hm⟩ : ∃ m, m = dropN first l.length n := ⟨_, rfl⟩
  rw [← hm] at hle hcut ⊢
  have hcut' := Lib.hid hcut
  have hst : DropInv w room first l a c 0 W1 := ⟨l, a, c, by simp, by simpa using hbox, hres, hs1, hB1, fun b hb => .inl ⟨hb, h.lt b hb⟩⟩
  have hlt0 := h.lt
  clear hm hcut hs1 hbox hres hB1 h
  unfold rv
  go_enter Try.func42, Try.ntmps42
  go_wp2_with fail
  rw [← hW1]
  clear hW1
  go_wp2_with fail
  go_loopw [] (fun wr => ∃ k : Nat, k ≤ m ∧ DropInv w room first l a c k wr) (fun wr => leftN w.heap.size wr)
  case atStart => exact ⟨0, Nat.zero_le _, hst⟩
  case round =>
    obtain ⟨k, hk, l2, a2, c2, hl2, hbox, hres, hs, hB, hO⟩ := hrel
    have hk0 := hcut'.out k hk
    have hlen : l2.length = l.length - k := by rw [hl2]; simp
    have hsum : first + (k : Int) ≤ 4611686018427387904 := by omega
    have q0 := hbox.cell 0
    have q1 := hbox.cell 1
    have q2 := hbox.cell 2
    have f1 := hbox.frozen 1
    have f2 := hbox.frozen 2
    have hlt := hbox.lt
    have hlt2 := hres.lt
    have hl9 : (l2.length : Int) ≤ 4096 := by omega
    by_cases hlt : k < m
    · obtain ⟨c1, c3⟩ := hk0.1 hlt
      have c4 : (0 : Int) < (l2.length : Int) := by omega
      have p1 := part_any wr a2 c2 l2 hs 1 l2.length (by omega) (Nat.le_refl _) (by omega)
      rw [show ((1 : Nat) : Int) = 1 from rfl, show (l2.drop 1).take (l2.length - 1) = l2.drop 1 from List.take_of_length_le (by simp)] at p1
      have hm1 := leftN_eq q2
      obtain ⟨l3, hl3⟩ : ∃ l3, l3 = l2.drop 1 := ⟨_, rfl⟩
      rw [← hl3] at p1
      have P := Lib.hid p1
      have HL := Lib.hid hlen
      have HL2 := Lib.hid hl2
      have HL3 := Lib.hid hl3
      have HM := Lib.hid hm1
      clear hk0 hlen hl2 hl3 p1 hm1
      go_wp2_with fail
      refine P.out.mono ?_
      rintro e W3 ⟨sv, rfl, hF, hB3, hO3⟩
      obtain ⟨a3, c3', rfl, hlc3, hcm3⟩ := hF.slice
      have hbox3 := hbox.below hB3 hbox.lt
      have hres3 := hres.below hB3 hres.lt
      have m1 := hbox3.cell 1
      have m2 := hbox3.cell 2
      have n1 := hbox3.frozen 1
      have n2 := hbox3.frozen 2
      go_wp2_with fail
      have hbox4 : Blk ((W3.setCell ⟨w.heap.size, 2, none⟩ (.slice a3 l3.length c3')).setCell ⟨w.heap.size, 1, none⟩ (.int .i64 (first + (k : Int) + 1))) w.heap.size 55 #[.int .i64 room, .int .i64 (first + (k : Int) + 1), .slice a3 l3.length c3'] := by
        simpa using (hbox3.set_ 2 (.slice a3 l3.length c3')).set_ 1 (.int .i64 (first + (k : Int) + 1))
      have hO4 : ∀ b, (Value.slice a3 l3.length c3').ownBlock = some b → w.heap.size + 2 ≤ b := fun b hb => by have := hO3 b hb; omega
      go_roundw
      case rel =>
        refine ⟨k + 1, by omega, l3, a3, c3', by rw [HL3.out, HL2.out, List.drop_drop], by simpa [Int.add_assoc] using hbox4, (hres3.far (by simp) _).far (by simp) _, ?_, ?_, fun b hb => .inr (hO4 b hb)⟩
        · exact (hF.far (p := ⟨w.heap.size, 2, none⟩) (fun e => by have := hO4 _ e; simp at this; omega) _).far (p := ⟨w.heap.size, 1, none⟩) (fun e => by have := hO4 _ e; simp at this; omega) _
        · exact ((hB.trans (hB3.mono (by omega))).setCell (p := ⟨w.heap.size, 2, none⟩) (Nat.le_refl _) _).setCell (p := ⟨w.heap.size, 1, none⟩) (Nat.le_refl _) _
      case measure =>
        rw [HM.out, leftN_eq (hbox4.cell 2), HL3.out]
        simp
        omega
    · obtain rfl : k = m := by omega
      have hnot : ¬ ((0 : Int) < (l2.length : Int) ∧ first + (k : Int) < n) := fun e => hlt (hk0.2 ⟨by omega, e.2⟩)
      have g0 := hres.cell 0
      have g1 := hres.cell 1
      have g2 := hres.cell 2
      have e0 := hres.frozen 0
      have e1 := hres.frozen 1
      have e2 := hres.frozen 2
      have HL2 := Lib.hid hl2
      clear hk0 hlen hl2
      by_cases c1 : (0 : Int) < (l2.length : Int)
      · have c3 : ¬ first + (k : Int) < n := fun e => hnot ⟨c1, e⟩
        clear hnot
        go_wp2_with fail
        refine bodyPost_ret (v := rv room (first + (k : Int)) (.slice a2 l2.length c2)) (by simp [results, rv, Try.results42, go_sem, g0, g1, g2]) rfl ?_
        rw [← HL2.out]
        exact refTo (W := wr) hB hs hO (by repeat (first | exact Touch.refl _ _ | refine Touch.setCell ?_ (Or.inl (by simp [boxS])) _))
      · clear hnot
        go_wp2_with fail
        refine bodyPost_ret (v := rv room (first + (k : Int)) (.slice a2 l2.length c2)) (by simp [results, rv, Try.results42, go_sem, g0, g1, g2]) rfl ?_
        rw [← HL2.out]
        exact refTo (W := wr) hB hs hO (by repeat (first | exact Touch.refl _ _ | refine Touch.setCell ?_ (Or.inl (by simp [boxS])) _))
end Go.Proofs.Ytmipapfanelheaa.Ref09
