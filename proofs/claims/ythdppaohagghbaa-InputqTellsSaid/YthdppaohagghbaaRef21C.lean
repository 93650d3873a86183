/-
  The walk of backstayref21.Add. Conditions: numbers and lengths without overflow.
-/
import Derived.Test.YthdppaohagghbaaRef21B
namespace Go.Proofs.Ythdppaohagghbaa.Ref21
open Go.RowKit
set_option linter.all false

def addHit (x : R) (v : Int) : Prop := x.K.length < x.U.length ∧ x.fu ≤ (x.K.length : Int) ∧ nth x.U x.K.length ≠ v ∧ (x.wrong < 0 ∨ (x.K.length : Int) < x.wrong)
instance (x : R) (v : Int) : Decidable (addHit x v) := by unfold addHit; infer_instance
def addR (x : R) (v : Int) : R := { x with K := x.K ++ [v], fk := max x.fk ((x.K.length : Int) + 1 - 256), last := v, wrong := if addHit x v then (x.K.length : Int) else x.wrong }

set_option maxRecDepth 100000 in
set_option maxHeartbeats 600000 in
theorem add_any (w : World) (a b : Option Addr) (c d : Nat) (x : R) (v : Int) (h : RAt w (.slice a x.K.length c) (.slice b x.U.length d) x) (ok : OkR x) :
    Calls Try.prog 133 #[rval (.slice a x.K.length c) (.slice b x.U.length d) x, .int .u16 v] w fun e w' => RTo w (.slice a x.K.length c) (.slice b x.U.length d) (addR x v) (fun q => .tuple #[q, .int .i64 x.K.length]) e w' := by
  obtain ⟨o1, o2, o3, o4, o5, o6⟩ := ok
  obtain ⟨i0, hi0, hz0, hz1', hz2⟩ := info_parts RingInput.info
  obtain ⟨W1, hW1, hz1, hB1, hbox, hres⟩ := boxes w #[.slice a x.K.length c, .slice b x.U.length d, .int .i64 x.fk, .int .i64 x.fu, .int .u16 x.last, .int .i64 x.wrong]
  have hK1 := h.1.below hB1
  have hU1 := h.2.below hB1
  have p1 := Lib.hid (copied_any W1 a c x.K hK1 (by omega))
  obtain ⟨m1, hm1⟩ : ∃ m1, (if x.fk < (x.K.length : Int) + 1 - 256 then (x.K.length : Int) + 1 - 256 else x.fk) = m1 := ⟨_, rfl⟩
  have k0 := hbox.cell 0
  unfold rval qv
  go_enter Try.func133, Try.ntmps133
  go_upto_region 1 with fail
  rw [← hW1]
  clear hW1
  go_wp2_with fail
  refine p1.out.mono ?_
  rintro e W2 ⟨sv, rfl, hF, hB, hO⟩
  obtain ⟨a1, c1, rfl, hlc1, hcm1⟩ := hF.slice
  have hown := On.alloc hF (.cells #[.int .u16 v] 30)
  have hne1 : some w.heap.size ≠ (Value.slice a1 x.K.length c1).ownBlock := fun e => by have := hO _ e.symm; omega
  have hne2 : some (w.heap.size + 1) ≠ (Value.slice a1 x.K.length c1).ownBlock := fun e => by have := hO _ e.symm; omega
  go_upto_region 3 with (at_builtin; refine wpList_append_on _ rfl (.tmp 12) (.tmp 14) _ rfl 30 i0 _ 1 2 Try.underlying22 hi0 hz0 hz1' hz2 rfl (by omega) (.slice a1 x.K.length c1) _ _ rfl hown _ 1 1 [.int .u16 v] rfl rfl (.inr ⟨_, rfl, cell_one_new _ _ _⟩) (by simp [Value.oneCell']) (by simp only [maxLen]; omega) (by omega) ?_; intro v' W3 hown1 hg1 hat1; obtain ⟨a', c', rfl, hlc', hcm'⟩ := hown1.slice; clear hown; have hbox3 := ((hbox.below hB (by omega)).alloc (.cells #[.int .u16 v] 30)).grown hg1 hne1; have f0 := hbox3.frozen 0; have q0 := hbox3.cell 0)
  have hbox4 : Blk (W3.setCell ⟨w.heap.size, 0, none⟩ (.slice a' (x.K.length + 1) c')) w.heap.size 37 #[.slice a' (x.K.length + 1) c', .slice b x.U.length d, .int .i64 x.fk, .int .i64 x.fu, .int .u16 x.last, .int .i64 x.wrong] := by
    simpa using hbox3.set_ 0 (.slice a' (x.K.length + 1) c')
  have hres3 := ((hres.below hB (by omega)).alloc (.cells #[.int .u16 v] 30)).grown hg1 hne2
  have hB3 : Below w.heap.size w W3 := ((hB1.trans (hB.mono (by omega))).alloc (by have := hB.size; omega) _).grown hg1 (by have := hB.size; simp; omega) (fun k hk => by have := hO k hk; omega)
  have hU2 : L W2 (.slice b x.U.length d) x.U := hU1.below hB
  have hU3 : L W3 (.slice b x.U.length d) x.U := by
    refine On.grown (On.alloc hU2 _) hg1 ?_
    cases hb : (Value.slice b x.U.length d).ownBlock with
    | none => exact .inl rfl
    | some g => exact .inr (fun e => by have := hO g e.symm; have := On.lt hU1 g hb; omega)
  have hT4 : Touch (boxS w) W3 (W3.setCell ⟨w.heap.size, 0, none⟩ (.slice a' (x.K.length + 1) c')) := (Touch.refl (boxS w) W3).setCell (p := ⟨w.heap.size, 0, none⟩) (Or.inl (Or.inl rfl)) _
  have hres4 := hres3.far (p := ⟨w.heap.size, 0, none⟩) (by simp) (.slice a' (x.K.length + 1) c')
  have hU4 : L (W3.setCell ⟨w.heap.size, 0, none⟩ (.slice a' (x.K.length + 1) c')) (.slice b x.U.length d) x.U := On.touch hU3 hT4 (fun g hg hS => by have := On.lt h.2 g hg; rcases hS with e | e <;> omega)
  have hK3 : L W3 (.slice a' (x.K.length + 1) c') (x.K ++ [v]) := by unfold L; simpa using hown1
  have hKo : ∀ g, (Value.slice a' (x.K.length + 1) c').ownBlock = some g → w.heap.size + 2 ≤ g := fun g hg => (own_le hat1 (n := w.heap.size + 2) (by have := hB.size; simp; omega) g hg).elim (fun e => by have := hO g e; omega) id
  obtain ⟨W4, hW4⟩ : ∃ W4, W4 = W3.setCell ⟨w.heap.size, 0, none⟩ (.slice a' (x.K.length + 1) c') := ⟨_, rfl⟩
  rw [← hW4] at hbox4 hT4 hres4 hU4 ⊢
  clear hW4 hbox3 hres3 hbox hres hg1 hat1 hown1 f0 q0 k0
  have q0 := hbox4.cell 0
  have q1 := hbox4.cell 1
  have q2 := hbox4.cell 2
  have q3 := hbox4.cell 3
  have q4 := hbox4.cell 4
  have q5 := hbox4.cell 5
  have f2 := hbox4.frozen 2
  have f4 := hbox4.frozen 4
  have f5 := hbox4.frozen 5
  have g0 := hres4.cell 0
  have g1 := hres4.cell 1
  have g2 := hres4.cell 2
  have g3 := hres4.cell 3
  have g4 := hres4.cell 4
  have g5 := hres4.cell 5
  have e0 := hres4.frozen 0
  have e1 := hres4.frozen 1
  have e2 := hres4.frozen 2
  have e3 := hres4.frozen 3
  have e4 := hres4.frozen 4
  have e5 := hres4.frozen 5
  have hend : ∀ (wr : Int) W, wr = (if addHit x v then (x.K.length : Int) else x.wrong) → Touch (boxS w) W4 W →
      RTo w (.slice a x.K.length c) (.slice b x.U.length d) (addR x v) (fun q => .tuple #[q, .int .i64 x.K.length]) (.returned (.tuple #[rval (.slice a' (x.K.length + 1) c') (.slice b x.U.length d) { x with K := x.K ++ [v], fk := m1, last := v, wrong := wr }, .int .i64 x.K.length])) W := by
    intro wr W hwr hT
    have ex : addR x v = { x with K := x.K ++ [v], fk := m1, last := v, wrong := wr } := by
      unfold addR; rw [hwr]; congr 1; rw [← hm1]; split <;> omega
    rw [ex]
    exact rTo (x := { x with K := x.K ++ [v], fk := m1, last := v, wrong := wr }) (f := fun q => .tuple #[q, .int .i64 x.K.length]) (W := W3) hB3 ⟨hK3, hU3⟩ (fun g hg => .inr (hKo g hg)) (fun g hg => .inl ⟨hg, On.lt h.2 g hg⟩) (hT4.trans hT (fun k hk => .inl hk))
  have hend := Lib.hid hend
  have hi0 : (0 : Int) ≤ (x.K.length : Int) := by omega
  by_cases c1 : (x.K.length : Int) < (x.U.length : Int)
  · by_cases c2 : x.fu ≤ (x.K.length : Int)
    · obtain ⟨g, cap, e1', hg⟩ := hU4.ints (by omega)
      cases e1'
      have hcj := hg x.K.length (by omega)
      have hgl := On.lt h.2 g rfl
      have hgn : g ≠ w.heap.size := by omega
      have hgn2 : g ≠ w.heap.size + 1 := by omega
      clear hg
      by_cases c3 : nth x.U x.K.length = v
      · have hh := Lib.hid (show x.wrong = (if addHit x v then (x.K.length : Int) else x.wrong) by rw [if_neg (fun e => e.2.2.1 c3)])
        go_wp2_with fail
        refine bodyPost_ret (v := .tuple #[rval (.slice a' (x.K.length + 1) c') (.slice (some ⟨g, 0, none⟩) x.U.length d) { x with K := x.K ++ [v], fk := m1, last := v, wrong := x.wrong }, .int .i64 x.K.length]) (by simp [results, rval, qv, Try.results133, go_sem, g0, g1, g2, g3, g4, g5]) rfl ?_
        refine hend.out _ _ hh.out ?_
        repeat (refine Touch.setCell ?_ (Or.inl (by simp [boxS])) _)
        exact Touch.refl _ _
      · have c3b : ¬ v = nth x.U x.K.length := fun e => c3 e.symm
        by_cases c4 : x.wrong < 0
        · have hh := Lib.hid (show (x.K.length : Int) = (if addHit x v then (x.K.length : Int) else x.wrong) by rw [if_pos ⟨by omega, c2, c3, .inl c4⟩])
          go_wp2_with fail
          refine bodyPost_ret (v := .tuple #[rval (.slice a' (x.K.length + 1) c') (.slice (some ⟨g, 0, none⟩) x.U.length d) { x with K := x.K ++ [v], fk := m1, last := v, wrong := (x.K.length : Int) }, .int .i64 x.K.length]) (by simp [results, rval, qv, Try.results133, go_sem, g0, g1, g2, g3, g4, g5]) rfl ?_
          refine hend.out _ _ hh.out ?_
          repeat (refine Touch.setCell ?_ (Or.inl (by simp [boxS])) _)
          exact Touch.refl _ _
        · by_cases c5 : (x.K.length : Int) < x.wrong
          · have hh := Lib.hid (show (x.K.length : Int) = (if addHit x v then (x.K.length : Int) else x.wrong) by rw [if_pos ⟨by omega, c2, c3, .inr c5⟩])
            go_wp2_with fail
            refine bodyPost_ret (v := .tuple #[rval (.slice a' (x.K.length + 1) c') (.slice (some ⟨g, 0, none⟩) x.U.length d) { x with K := x.K ++ [v], fk := m1, last := v, wrong := (x.K.length : Int) }, .int .i64 x.K.length]) (by simp [results, rval, qv, Try.results133, go_sem, g0, g1, g2, g3, g4, g5]) rfl ?_
            refine hend.out _ _ hh.out ?_
            repeat (refine Touch.setCell ?_ (Or.inl (by simp [boxS])) _)
            exact Touch.refl _ _
          · have hh := Lib.hid (show x.wrong = (if addHit x v then (x.K.length : Int) else x.wrong) by rw [if_neg (fun e => e.2.2.2.elim c4 c5)])
            go_wp2_with fail
            refine bodyPost_ret (v := .tuple #[rval (.slice a' (x.K.length + 1) c') (.slice (some ⟨g, 0, none⟩) x.U.length d) { x with K := x.K ++ [v], fk := m1, last := v, wrong := x.wrong }, .int .i64 x.K.length]) (by simp [results, rval, qv, Try.results133, go_sem, g0, g1, g2, g3, g4, g5]) rfl ?_
            refine hend.out _ _ hh.out ?_
            repeat (refine Touch.setCell ?_ (Or.inl (by simp [boxS])) _)
            exact Touch.refl _ _
    · have hh := Lib.hid (show x.wrong = (if addHit x v then (x.K.length : Int) else x.wrong) by rw [if_neg (fun e => c2 e.2.1)])
      go_wp2_with fail
      refine bodyPost_ret (v := .tuple #[rval (.slice a' (x.K.length + 1) c') (.slice b x.U.length d) { x with K := x.K ++ [v], fk := m1, last := v, wrong := x.wrong }, .int .i64 x.K.length]) (by simp [results, rval, qv, Try.results133, go_sem, g0, g1, g2, g3, g4, g5]) rfl ?_
      refine hend.out _ _ hh.out ?_
      repeat (refine Touch.setCell ?_ (Or.inl (by simp [boxS])) _)
      exact Touch.refl _ _
  · have hh := Lib.hid (show x.wrong = (if addHit x v then (x.K.length : Int) else x.wrong) by rw [if_neg (fun e => c1 (by have := e.1; omega))])
    go_wp2_with fail
    refine bodyPost_ret (v := .tuple #[rval (.slice a' (x.K.length + 1) c') (.slice b x.U.length d) { x with K := x.K ++ [v], fk := m1, last := v, wrong := x.wrong }, .int .i64 x.K.length]) (by simp [results, rval, qv, Try.results133, go_sem, g0, g1, g2, g3, g4, g5]) rfl ?_
    refine hend.out _ _ hh.out ?_
    repeat (refine Touch.setCell ?_ (Or.inl (by simp [boxS])) _)
    exact Touch.refl _ _
end Go.Proofs.Ythdppaohagghbaa.Ref21
