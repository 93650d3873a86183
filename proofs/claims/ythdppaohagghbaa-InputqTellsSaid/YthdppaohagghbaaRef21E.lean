/-
  The walk of backstayref21.Use. Conditions: numbers and lengths without overflow.
-/
import Derived.Test.YthdppaohagghbaaRef21D
namespace Go.Proofs.Ythdppaohagghbaa.Ref21
open Go.RowKit
set_option linter.all false

def useE (x : R) (n : Int) : Int := if (x.U.length : Int) < n then 210 else thinkE x.fk n
def useV (x : R) (n : Int) : Int := if useE x n = 0 then thinkV x.K x.fk x.last n else 0
def useK (x : R) (n : Int) : Bool := if useE x n = 0 then thinkK x.K x.fk n else false
def useR (x : R) (n : Int) : R :=
  if useE x n = 0 then
    if n = (x.U.length : Int) then { x with U := x.U ++ [thinkV x.K x.fk x.last n], fu := max x.fu ((x.U.length : Int) + 1 - 256) }
    else if x.fu ≤ n then { x with U := x.U.set n.toNat (thinkV x.K x.fk x.last n) } else x
  else x
def useT (x : R) (n : Int) : Value → Value := fun q => .tuple #[q, .int .u16 (useV x n), .bool (useK x n), .int .i64 (useE x n)]

set_option maxRecDepth 100000 in
set_option maxHeartbeats 2000000 in
/-- Where it is refused. -/
theorem use_no (w : World) (a b : Option Addr) (c d : Nat) (x : R) (n : Int) (h : RAt w (.slice a x.K.length c) (.slice b x.U.length d) x) (ok : OkR x) (he : useE x n ≠ 0) :
    Calls Try.prog 164 #[rval (.slice a x.K.length c) (.slice b x.U.length d) x, .int .i64 n] w fun e w' => RTo w (.slice a x.K.length c) (.slice b x.U.length d) (useR x n) (useT x n) e w' := by
  obtain ⟨o1, o2, o3, o4, o5, o6⟩ := ok
  have ev : useV x n = 0 := by rw [useV, if_neg he]
  have ek : useK x n = false := by rw [useK, if_neg he]
  have er : useR x n = x := by rw [useR, if_neg he]
  obtain ⟨W1, hW1, hz1, hB1, hbox, hres⟩ := boxes w #[.slice a x.K.length c, .slice b x.U.length d, .int .i64 x.fk, .int .i64 x.fu, .int .u16 x.last, .int .i64 x.wrong]
  have hK1 := h.1.below hB1
  have hU1 := h.2.below hB1
  have p1 := think_any W1 a c (.slice b x.U.length d) x.K x.fk x.fu x.last x.wrong n hK1 o1 ⟨_, _, _, rfl⟩
  have k0 := hbox.cell 0
  have k1 := hbox.cell 1
  have k2 := hbox.cell 2
  have k3 := hbox.cell 3
  have k4 := hbox.cell 4
  have k5 := hbox.cell 5
  have g0 := hres.cell 0
  have g1 := hres.cell 1
  have g2 := hres.cell 2
  have g3 := hres.cell 3
  have g4 := hres.cell 4
  have g5 := hres.cell 5
  have e0 := hres.frozen 0
  have e1 := hres.frozen 1
  have e2 := hres.frozen 2
  have e3 := hres.frozen 3
  have e4 := hres.frozen 4
  have e5 := hres.frozen 5
  have hend : ∀ (W W' : World), Below W1.heap.size W1 W → Touch (boxS w) W W' →
      RTo w (.slice a x.K.length c) (.slice b x.U.length d) (useR x n) (useT x n) (.returned (.tuple #[rval (.slice a x.K.length c) (.slice b x.U.length d) x, .int .u16 0, .bool false, .int .i64 (useE x n)])) W' := by
    intro W W' hb hT
    rw [er]
    have := rTo (f := useT x n) (W := W) (k0 := .slice a x.K.length c) (u0 := .slice b x.U.length d) (hB1.trans (hb.mono (by omega))) ⟨hK1.below hb, hU1.below hb⟩ (fun g hg => .inl ⟨hg, On.lt h.1 g hg⟩) (fun g hg => .inl ⟨hg, On.lt h.2 g hg⟩) hT
    have e2 : useT x n (rval (.slice a x.K.length c) (.slice b x.U.length d) x) = .tuple #[rval (.slice a x.K.length c) (.slice b x.U.length d) x, .int .u16 0, .bool false, .int .i64 (useE x n)] := by
      unfold useT; rw [ev, ek]
    rw [e2] at this
    exact this
  have hend := Lib.hid hend
  by_cases c1 : (x.U.length : Int) < n
  · have e1 : useE x n = 210 := by rw [useE, if_pos c1]
    rw [e1] at hend
    clear e1 he
    have e1 := hres.frozen 1
    unfold rval qv
    go_enter Try.func164, Try.ntmps164
    go_upto_region 1 with fail
    rw [← hW1]
    clear hW1 p1
    go_wp2_with fail
    refine bodyPost_ret (v := .tuple #[rval (.slice a x.K.length c) (.slice b x.U.length d) x, .int .u16 0, .bool false, .int .i64 210]) (by simp [results, rval, qv, Try.results164, go_sem, g0, g1, g2, g3, g4, g5]) rfl ?_
    refine hend.out W1 _ (Below.refl _ _) ?_
    repeat (refine Touch.setCell ?_ (Or.inl (by simp [boxS])) _)
    exact Touch.refl _ _
  · have e1 : useE x n = thinkE x.fk n := by rw [useE, if_neg c1]
    have c2 : n < x.fk := by
      rw [e1, thinkE] at he
      split at he
      · assumption
      · exact absurd rfl he
    have e3 : thinkE x.fk n = 90 := by rw [thinkE, if_pos c2]
    rw [e1, e3] at hend
    rw [e3, show thinkV x.K x.fk x.last n = 0 by rw [thinkV, if_pos c2], show thinkK x.K x.fk n = false by rw [thinkK, decide_eq_false (by omega)]; rfl] at p1
    unfold qv at p1
    have p1 := Lib.hid p1
    unfold rval qv
    clear e1 e3 he c2
    have e1 := hres.frozen 1
    have e3 := hres.frozen 3
    go_enter Try.func164, Try.ntmps164
    go_upto_region 1 with fail
    rw [← hW1]
    clear hW1
    go_wp2_with fail
    refine p1.out.mono ?_
    rintro e W2 ⟨rfl, hb⟩
    have hbox2 := hbox.below hb hbox.lt
    have hres2 := hres.below hb hres.lt
    clear k0 k1 k2 k3 k4 k5 g0 g1 g2 g3 g4 g5 e0 e1 e2 e3 e4 e5
    have k0 := hbox2.cell 0
    have k1 := hbox2.cell 1
    have k2 := hbox2.cell 2
    have k3 := hbox2.cell 3
    have k4 := hbox2.cell 4
    have k5 := hbox2.cell 5
    have g0 := hres2.cell 0
    have g1 := hres2.cell 1
    have g2 := hres2.cell 2
    have g3 := hres2.cell 3
    have g4 := hres2.cell 4
    have g5 := hres2.cell 5
    have e0 := hres2.frozen 0
    have e1 := hres2.frozen 1
    have e2 := hres2.frozen 2
    have e3 := hres2.frozen 3
    have e4 := hres2.frozen 4
    have e5 := hres2.frozen 5
    go_wp2_with fail
    refine bodyPost_ret (v := .tuple #[rval (.slice a x.K.length c) (.slice b x.U.length d) x, .int .u16 0, .bool false, .int .i64 90]) (by simp [results, rval, qv, Try.results164, go_sem, g0, g1, g2, g3, g4, g5]) rfl ?_
    refine hend.out W2 _ hb ?_
    repeat (refine Touch.setCell ?_ (Or.inl (by simp [boxS])) _)
    exact Touch.refl _ _

set_option maxRecDepth 100000 in
set_option maxHeartbeats 4000000 in
/-- Where it is done. -/
theorem use_ok (w : World) (a b : Option Addr) (c d : Nat) (x : R) (n : Int) (h : RAt w (.slice a x.K.length c) (.slice b x.U.length d) x) (ok : OkR x) (he : useE x n = 0) :
    Calls Try.prog 164 #[rval (.slice a x.K.length c) (.slice b x.U.length d) x, .int .i64 n] w fun e w' => RTo w (.slice a x.K.length c) (.slice b x.U.length d) (useR x n) (useT x n) e w' := by
  obtain ⟨o1, o2, o3, o4, o5, o6⟩ := ok
  obtain ⟨i0, hi0, hz0, hz1', hz2⟩ := info_parts RingInput.info
  have c1 : ¬ (x.U.length : Int) < n := fun e => by rw [useE, if_pos e] at he; cases he
  have c2 : ¬ n < x.fk := fun e => by rw [useE, if_neg c1, thinkE, if_pos e] at he; cases he
  have e3 : thinkE x.fk n = 0 := by rw [thinkE, if_neg c2]
  obtain ⟨V, hV⟩ : ∃ V, V = thinkV x.K x.fk x.last n := ⟨_, rfl⟩
  obtain ⟨B, hBk⟩ : ∃ B, B = thinkK x.K x.fk n := ⟨_, rfl⟩
  have ev : useV x n = V := by rw [useV, if_pos he, hV]
  have ek : useK x n = B := by rw [useK, if_pos he, hBk]
  have er : useR x n = if n = (x.U.length : Int) then { x with U := x.U ++ [V], fu := max x.fu ((x.U.length : Int) + 1 - 256) } else if x.fu ≤ n then { x with U := x.U.set n.toNat V } else x := by rw [useR, if_pos he, hV]
  have et : ∀ q, useT x n q = .tuple #[q, .int .u16 V, .bool B, .int .i64 0] := fun q => by unfold useT; rw [ev, ek, he]
  obtain ⟨W1, hW1, hz1, hB1, hbox, hres⟩ := boxes w #[.slice a x.K.length c, .slice b x.U.length d, .int .i64 x.fk, .int .i64 x.fu, .int .u16 x.last, .int .i64 x.wrong]
  have hK1 := h.1.below hB1
  have hU1 := h.2.below hB1
  have p1 := think_any W1 a c (.slice b x.U.length d) x.K x.fk x.fu x.last x.wrong n hK1 o1 ⟨_, _, _, rfl⟩
  rw [e3, ← hV, ← hBk] at p1
  unfold qv at p1
  have p1 := Lib.hid p1
  have p2 := Lib.hid (fun W hl => copied_any W b d x.U hl (by omega))
  have k0 := hbox.cell 0
  have k1 := hbox.cell 1
  have k2 := hbox.cell 2
  have k3 := hbox.cell 3
  have k4 := hbox.cell 4
  have k5 := hbox.cell 5
  have er := Lib.hid er
  have et := Lib.hid et
  clear he e3 hV hBk ev ek
  unfold rval qv
  go_enter Try.func164, Try.ntmps164
  go_upto_region 1 with fail
  rw [← hW1]
  clear hW1
  go_wp2_with fail
  refine p1.out.mono ?_
  rintro e W2 ⟨rfl, hb⟩
  have hbox2 := hbox.below hb hbox.lt
  have hres2 := hres.below hb hres.lt
  clear k0 k1 k2 k3 k4 k5
  have k1 := hbox2.cell 1
  go_wp2_with fail
  refine (p2.out _ (hU1.below hb)).mono ?_
  rintro e W3 ⟨sv, rfl, hF, hB3, hO⟩
  obtain ⟨a3, c3, rfl, hlc3, hcm3⟩ := hF.slice
  have hbox3 := hbox2.below hB3 hbox2.lt
  have hres3 := hres2.below hB3 hres2.lt
  have hK3 := (hK1.below hb).below hB3
  have hs2 := hb.size
  have hs3 := hB3.size
  have hBw : Below w.heap.size w W3 := (hB1.trans (hb.mono (by omega))).trans (hB3.mono (by omega))
  have hOw : ∀ g, (Value.slice a3 x.U.length c3).ownBlock = some g → w.heap.size + 2 ≤ g := fun g hg => by have := hO g hg; omega
  have hKo : ∀ g, (Value.slice a x.K.length c).ownBlock = some g → ((Value.slice a x.K.length c).ownBlock = some g ∧ g < w.heap.size) ∨ w.heap.size + 2 ≤ g := fun g hg => .inl ⟨hg, On.lt h.1 g hg⟩
  clear k1
  by_cases c3' : n = (x.U.length : Int)
  · subst c3'
    obtain ⟨m1, hm1⟩ : ∃ m1, (if x.fu < (x.U.length : Int) + 1 - 256 then (x.U.length : Int) + 1 - 256 else x.fu) = m1 := ⟨_, rfl⟩
    have er2 : useR x (x.U.length : Int) = { x with U := x.U ++ [V], fu := m1 } := by
      rw [er.out, if_pos rfl]; congr 1; rw [← hm1]; split <;> omega
    have er2 := Lib.hid er2
    have hown := On.alloc hF (.cells #[.int .u16 V] 30)
    have hne1 : some w.heap.size ≠ (Value.slice a3 x.U.length c3).ownBlock := fun e => by have := hOw _ e.symm; omega
    have hne2 : some (w.heap.size + 1) ≠ (Value.slice a3 x.U.length c3).ownBlock := fun e => by have := hOw _ e.symm; omega
    have hj0 : (0 : Int) ≤ (x.U.length : Int) := by omega
    go_wp2_with (at_builtin; refine wpList_append_on _ rfl (.tmp 36) (.tmp 38) _ rfl 30 i0 _ 1 2 Try.underlying22 hi0 hz0 hz1' hz2 rfl (by omega) (.slice a3 x.U.length c3) _ _ rfl hown _ 1 1 [.int .u16 V] rfl rfl (.inr ⟨_, rfl, cell_one_new _ _ _⟩) (by simp [Value.oneCell']) (by simp only [maxLen]; omega) (by omega) ?_; intro v' W4 hown1 hg1 hat1; obtain ⟨a', c', rfl, hlc', hcm'⟩ := hown1.slice; clear hown; have hbox4 := (hbox3.alloc (.cells #[.int .u16 V] 30)).grown hg1 hne1; have hres4 := (hres3.alloc (.cells #[.int .u16 V] 30)).grown hg1 hne2; have k0 := hbox4.cell 0; have k1 := hbox4.cell 1; have k2 := hbox4.cell 2; have k3 := hbox4.cell 3; have k4 := hbox4.cell 4; have k5 := hbox4.cell 5; have f1 := hbox4.frozen 1; have f3 := hbox4.frozen 3; have g0 := hres4.cell 0; have g1 := hres4.cell 1; have g2 := hres4.cell 2; have g3 := hres4.cell 3; have g4 := hres4.cell 4; have g5 := hres4.cell 5; have e0 := hres4.frozen 0; have e1 := hres4.frozen 1; have e2 := hres4.frozen 2; have e3 := hres4.frozen 3; have e4 := hres4.frozen 4; have e5 := hres4.frozen 5)
    refine bodyPost_ret (v := .tuple #[rval (.slice a x.K.length c) (.slice a' (x.U.length + 1) c') { x with U := x.U ++ [V], fu := m1 }, .int .u16 V, .bool B, .int .i64 0]) (by simp [results, rval, qv, Try.results164, go_sem, g0, g1, g2, g3, g4, g5]) rfl ?_
    rw [er2.out]
    have hB4 : Below w.heap.size w W4 := (hBw.alloc (by omega) _).grown hg1 (by simp; omega) (fun k hk => by have := hOw k hk; omega)
    have hK4 : L W4 (.slice a x.K.length c) x.K := by
      refine On.grown (On.alloc hK3 _) hg1 ?_
      cases hb9 : (Value.slice a x.K.length c).ownBlock with
      | none => exact .inl rfl
      | some g => exact .inr (fun e => by have := hOw g e.symm; have := On.lt h.1 g hb9; omega)
    have hU4 : L W4 (.slice a' (x.U.length + 1) c') (x.U ++ [V]) := by unfold L; simpa using hown1
    have hOn : ∀ g, (Value.slice a' (x.U.length + 1) c').ownBlock = some g → w.heap.size + 2 ≤ g := fun g hg => (own_le hat1 (n := w.heap.size + 2) (by simp; omega) g hg).elim (fun e => hOw g e) id
    have := fun W' hT => rTo (f := useT x (x.U.length : Int)) (W := W4) (W' := W') (k := .slice a x.K.length c) (u := .slice a' (x.U.length + 1) c') (x := { x with U := x.U ++ [V], fu := m1 }) (k0 := .slice a x.K.length c) (u0 := .slice b x.U.length d) hB4 ⟨hK4, hU4⟩ hKo (fun g hg => .inr (hOn g hg)) hT
    rw [et.out] at this
    refine this _ ?_
    clear this
    repeat (refine Touch.setCell ?_ (Or.inl (by simp [boxS])) _)
    exact Touch.refl _ _
  · by_cases c4 : x.fu ≤ n
    · have er2 : useR x n = { x with U := x.U.set n.toNat V } := by rw [er.out, if_neg c3', if_pos c4]
      obtain ⟨j, rfl⟩ : ∃ j : Nat, n = (j : Int) := ⟨n.toNat, by omega⟩
      rw [show ((j : Int)).toNat = j by omega] at er2
      have er2 := Lib.hid er2
      obtain ⟨g, cap, e9, hg⟩ := hF.ints (by omega)
      cases e9
      have hcj := hg j (by omega)
      have hfj : W3.frozen? ⟨g, j, none⟩ = false := by
        rcases On.form hF with ⟨e, _⟩ | ⟨g', cap', e, _, _, _, _, _, hf⟩
        · cases e
        · cases e; exact hf j
      have hgO := hOw g rfl
      have hd1 : g ≠ w.heap.size := by omega
      have hd2 : g ≠ w.heap.size + 1 := by omega
      have hj0 : (0 : Int) ≤ (j : Int) := by omega
      have hj1 : (j : Int) < (x.U.length : Int) := by omega
      clear hg
      have k0 := hbox3.cell 0
      have k1 := hbox3.cell 1
      have k2 := hbox3.cell 2
      have k3 := hbox3.cell 3
      have k4 := hbox3.cell 4
      have k5 := hbox3.cell 5
      have f1 := hbox3.frozen 1
      have g0 := hres3.cell 0
      have g1 := hres3.cell 1
      have g2 := hres3.cell 2
      have g3 := hres3.cell 3
      have g4 := hres3.cell 4
      have g5 := hres3.cell 5
      have e0 := hres3.frozen 0
      have e1 := hres3.frozen 1
      have e2 := hres3.frozen 2
      have e3 := hres3.frozen 3
      have e4 := hres3.frozen 4
      have e5 := hres3.frozen 5
      go_wp2_with fail
      refine bodyPost_ret (v := .tuple #[rval (.slice a x.K.length c) (.slice (some ⟨g, 0, none⟩) x.U.length c3) { x with U := x.U.set j V }, .int .u16 V, .bool B, .int .i64 0]) (by simp [results, rval, qv, Try.results164, go_sem, g0, g1, g2, g3, g4, g5]) rfl ?_
      rw [er2.out]
      have hst := On.store hF j (.int .u16 V)
      rw [← List.map_set] at hst
      have hKs : L (W3.setCell ⟨g, j, none⟩ (.int .u16 V)) (.slice a x.K.length c) x.K := On.far hK3 (p := ⟨g, j, none⟩) (fun e => by have := On.lt h.1 g e; omega) _
      have hB4 : Below w.heap.size w (W3.setCell ⟨g, j, none⟩ (.int .u16 V)) := hBw.setCell (p := ⟨g, j, none⟩) (by simp; omega) _
      have hst2 : L (W3.setCell ⟨g, j, none⟩ (.int .u16 V)) (.slice (some ⟨g, 0, none⟩) x.U.length c3) (x.U.set j V) := by unfold L; simpa using hst
      clear hst
      obtain ⟨W4, hW4⟩ : ∃ W4, W4 = W3.setCell ⟨g, j, none⟩ (.int .u16 V) := ⟨_, rfl⟩
      rw [← hW4] at hKs hB4 hst2 ⊢
      have := fun W' hT => rTo (f := useT x (j : Int)) (W := W4) (W' := W') (k := .slice a x.K.length c) (u := .slice (some ⟨g, 0, none⟩) x.U.length c3) (x := { x with U := x.U.set j V }) (k0 := .slice a x.K.length c) (u0 := .slice b x.U.length d) hB4 ⟨hKs, hst2⟩ hKo (fun g hg => .inr (hOw g hg)) hT
      rw [et.out] at this
      refine this _ ?_
      clear this
      repeat (refine Touch.setCell ?_ (Or.inl (by simp [boxS])) _)
      exact Touch.refl _ _
    · have er2 : useR x n = x := by rw [er.out, if_neg c3', if_neg c4]
      have er2 := Lib.hid er2
      have k0 := hbox3.cell 0
      have k1 := hbox3.cell 1
      have k2 := hbox3.cell 2
      have k3 := hbox3.cell 3
      have k4 := hbox3.cell 4
      have k5 := hbox3.cell 5
      have f1 := hbox3.frozen 1
      have g0 := hres3.cell 0
      have g1 := hres3.cell 1
      have g2 := hres3.cell 2
      have g3 := hres3.cell 3
      have g4 := hres3.cell 4
      have g5 := hres3.cell 5
      have e0 := hres3.frozen 0
      have e1 := hres3.frozen 1
      have e2 := hres3.frozen 2
      have e3 := hres3.frozen 3
      have e4 := hres3.frozen 4
      have e5 := hres3.frozen 5
      go_wp2_with fail
      refine bodyPost_ret (v := .tuple #[rval (.slice a x.K.length c) (.slice a3 x.U.length c3) x, .int .u16 V, .bool B, .int .i64 0]) (by simp [results, rval, qv, Try.results164, go_sem, g0, g1, g2, g3, g4, g5]) rfl ?_
      rw [er2.out]
      have := fun W' hT => rTo (f := useT x n) (W := W3) (W' := W') (x := x) (k0 := .slice a x.K.length c) (u0 := .slice b x.U.length d) hBw ⟨hK3, hF⟩ hKo (fun g hg => .inr (hOw g hg)) hT
      rw [et.out] at this
      refine this _ ?_
      clear this
      repeat (refine Touch.setCell ?_ (Or.inl (by simp [boxS])) _)
      exact Touch.refl _ _
end Go.Proofs.Ythdppaohagghbaa.Ref21
