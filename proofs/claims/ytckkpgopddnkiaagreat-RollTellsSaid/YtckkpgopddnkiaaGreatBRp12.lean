/-
  Texts joined: RlE, RlG, RlH. No condition.
-/
import Derived.Test.YtckkpgopddnkiaaGreatBRp11
namespace Go.Proofs.YtckkpgopddnkiaaGreat.Rl
open Go.RowKit Go.Sort Go.Proofs.YtckkpgopddnkiaaGreat.Gm Go.Proofs.YtckkpgopddnkiaaGreat.RingE Go.Proofs.YtckkpgopddnkiaaGreat.Inputq
set_option linter.all false
attribute [local go_sem] idx0 idx1

/-- Somewhere between: the engine, its numbers told. -/
structure Mid (w wr : World) (c : Cfg) (s : SE) (p : P) (C : Array Value) : Prop where
  ea : ∃ s', s'.g = s.g ∧ s'.sb = s.sb ∧ (∀ j, (s'.ss j).q = (s.ss j).q) ∧ EAt wr c s' p C ∧ Touch (fpE s) w wr ∧ ∀ k, fpE s' k → fpE s k ∨ w.heap.size ≤ k
section
variable {w wr W : World} {c : Cfg} {s : SE} {p p' : P} {C : Array Value} {i : Nat}
theorem Mid.start (h : EAt w c s p C) : Mid w w c s p C := ⟨s, rfl, rfl, fun _ => rfl, h, Touch.refl _ _, fun _ hk => .inl hk⟩
theorem Mid.below (h : Mid w wr c s p C) (hb : Below wr.heap.size wr W) : Mid w W c s p C := by
  obtain ⟨s', e1, e2, e3, hE, hT, hF⟩ := h.ea
  exact ⟨s', e1, e2, e3, hE.below hb, hT.trans (Touch.of_below (S := fpE s) hb) (fun k hk => .inl hk), hF⟩
theorem Mid.drewN (h : Mid w wr c s p C) (n : Nat) : Mid w (wr.drewN n) c s p C := h.below (below_drewN (Below.refl _ wr) n)
theorem Mid.c7 (h : Mid w wr c s p C) : wr.cell? ⟨s.g, 7, none⟩ = some (.int .i64 (p.f 0)) := by
  obtain ⟨s', e1, e2, e3, hE, hT, hF⟩ := h.ea
  rw [← e1]; exact hE.c7
theorem Mid.c6 (h : Mid w wr c s p C) : wr.cell? ⟨s.g, 6, none⟩ = some (.pointer (some ⟨s.sb, 0, none⟩)) := by
  obtain ⟨s', e1, e2, e3, hE, hT, hF⟩ := h.ea
  rw [← e1, ← e2]; exact hE.c6
theorem Mid.cs (h : Mid w wr c s p C) : (wr.cell? ⟨s.g, 73, none⟩ = some (.int .i64 p.ro) ∧ wr.cell? ⟨s.g, 74, none⟩ = some (.int .i64 p.re) ∧ wr.cell? ⟨s.g, 75, none⟩ = some (.int .i64 p.wo)) ∧ ∀ j, wr.frozen? ⟨s.g, j, none⟩ = false := by
  obtain ⟨s', e1, e2, e3, hE, hT, hF⟩ := h.ea
  rw [← e1]; exact ⟨⟨hE.c73, hE.c74, hE.c75⟩, hE.fr⟩
theorem Mid.wrong (h : Mid w wr c s p C) (hi : i < 2) : Calls Tryz.prog 50 #[.pointer (some ⟨(s.ss i).q, 0, none⟩)] wr fun e w' => e = .returned (.int .i64 (p.qs i).wrong) ∧ w' = wr := by
  obtain ⟨s', e1, e2, e3, hE, hT, hF⟩ := h.ea
  have := wrong_any wr (s'.ss i) (p.qs i) (hE.qa i hi)
  rw [e3 i] at this
  exact this.mono fun _ _ h => ⟨h.1, h.2.symm⟩
/-- A queue that has turned. -/
theorem Mid.queue {x' : Q} (h : Mid w wr c s p C) (hi : i < 2) {f : FuncId} {args : Array Value} {v : Value}
    (hc : ∀ s', s'.q = (s.ss i).q → QAt wr s' (p.qs i) → Calls Tryz.prog f args wr fun e w' => e = .returned v ∧ TurnedQ wr s' x' w') :
    Calls Tryz.prog f args wr fun e w' => e = .returned v ∧ Mid w w' c s { p with qs := upd p.qs i x' } C := by
  obtain ⟨s', e1, e2, e3, hE, hT, hF⟩ := h.ea
  refine (hc (s'.ss i) (e3 i) (hE.qa i hi)).mono fun e w' ⟨h1, ht⟩ => ⟨h1, ?_⟩
  obtain ⟨s2, f1, f2, f3, hE2, T2, F2⟩ := hE.queue hi ht
  refine ⟨s2, f1.trans e1, f2.trans e2, fun j => (f3 j).trans (e3 j), hE2, hT.trans T2 hF, fun k hk => ?_⟩
  rcases F2 k hk with a | a
  · exact hF k a
  · exact .inr (Nat.le_trans hT.size a)
theorem Mid.right (h : Mid w wr c s p C) (hi : i < 2) : Calls Tryz.prog 67 #[.pointer (some ⟨(s.ss i).q, 0, none⟩)] wr fun e w' => e = .returned (.tuple #[]) ∧ Mid w w' c s { p with qs := upd p.qs i { p.qs i with wrong := -1 } } C :=
  h.queue hi (fun s' e hq => by rw [← e]; exact right_any wr s' (p.qs i) hq)
theorem Mid.turned (h : Mid w wr c s p C) (ht : ∀ s', Same s' s → EAt wr c s' p C → TurnedE wr c s' p' W) : TurnedE w c s p' W := by
  obtain ⟨s', e1, e2, e3, hE, hT, hF⟩ := h.ea
  obtain ⟨s2, C2, f1, hE2, T2, F2⟩ := ht s' ⟨e1, e2, e3⟩ hE
  refine ⟨s2, C2, f1.trans ⟨e1, e2, e3⟩, hE2, hT.trans T2 hF, fun k hk => ?_⟩
  rcases F2 k hk with a | a
  · exact hF k a
  · exact .inr (Nat.le_trans hT.size a)
end

/-- A new block for a state, and a state stored into it. -/
theorem storeNew (w1 : World) {D : Array Value} {f : F} (LD : Let D f) : ∃ W3, storeR Tryz.prog 47 (.pointer (some ⟨w1.heap.size, 0, none⟩)) (.agg D) (w1.alloc (.cells Tryz.zeroCells47 47)) = .ok .skip W3 ∧
    rowIn W3 w1.heap.size 0 66 = some D.toList ∧ Below w1.heap.size w1 W3 := by
  obtain ⟨Z, LZ⟩ := let_of zF
  have hZ : Tryz.zeroCells47 = Z := by rw [LZ.eq, ← stA_zero]
  rw [hZ]
  have hb : Blk (w1.alloc (.cells Z 47)) w1.heap.size 47 Z := Blk.new _ _ _
  have ht : (w1.alloc (.cells Z 47)).there w1.heap.size 0 D.size := fun j hj => by
    rw [Nat.zero_add, hb.cell]
    refine ⟨?_, hb.frozen j⟩
    rw [Array.getElem?_eq_getElem (by rw [LZ.size, ← LD.size]; exact hj)]
    rfl
  refine ⟨_, storeR_mid ht LD.info LD.one rfl, ?_, ?_⟩
  · have h2 := setCells_mid D.toList Z.toList [] [] _ (by simpa using hb) (by rw [Array.length_toList, Array.length_toList, LZ.size, LD.size])
    refine rowIn_of (fun j v hv => ?_) (by have := LD.size; simpa using this)
    have e : Blk ((w1.alloc (.cells Z 47)).setCells w1.heap.size 0 D.toList) w1.heap.size 47 D := by simpa using h2
    rw [Nat.zero_add, e.cell j]
    simpa using hv
  · have hT : Touch (fun k => k = w1.heap.size) (w1.alloc (.cells Z 47)) ((w1.alloc (.cells Z 47)).setCells w1.heap.size 0 D.toList) := touch_setCells (S := fun k => k = w1.heap.size) (Touch.refl _ _) _ (.inl rfl) _ _
    exact ((Below.refl _ w1).alloc (Nat.le_refl _) _).trans (hT.below (by simp) (fun k hk => by omega))

/-- The frame in the engine's block. -/
def frIn (wr : World) (g : Nat) : Int := intOf ((wr.cell? ⟨g, 7, none⟩).getD undef)
/-- Behind m frames played again. -/
structure Back (w wr : World) (c : Cfg) (s : SE) (y : H) (a m n b : Nat) : Prop where
  h : ∃ p' C' top, Sim c p' (reH y a m) (a + m) top b ∧ a + m ≤ top ∧ top ≤ n ∧ Mid w wr c s p' C'

/-- From the first loop's end to the second one's start. -/
structure FixA (w wr : World) (c : Cfg) (s : SE) (p : P) (x : H) (b : Nat) : Prop where
  c6 : wr.cell? ⟨s.g, 6, none⟩ = some (.pointer (some ⟨s.sb, 0, none⟩))
  st : ∃ D : List Value, (D.length = 66) ∧ Calls Tryz.prog 25 #[.pointer (some ⟨s.sb, 0, none⟩), .int .i64 (fromH x : Int)] wr fun e w1 => e = .returned (.tuple #[.agg D.toArray, .int .i64 0]) ∧
    ∃ W3, storeR Tryz.prog 47 (.pointer (some ⟨w1.heap.size, 0, none⟩)) (.agg D.toArray) (w1.alloc (.cells Tryz.zeroCells47 47)) = .ok .skip W3 ∧
      rowIn W3 w1.heap.size 0 66 = some D ∧ W3.cell? ⟨s.g, 7, none⟩ = some (.int .i64 (x.us.length : Int)) ∧
      ∃ W4, storeR Tryz.prog 47 (.pointer (some ⟨s.g, 7, none⟩)) (.agg D.toArray) W3 = .ok .skip W4 ∧ Back w W4 c s (rH x) (fromH x) 0 x.us.length b
theorem Mid.fixA {w wr : World} {c : Cfg} {s : SE} {p : P} {C : Array Value} {x : H} {b : Nat} (h : Mid w wr c s (rightN p 2) C) (hs : Sim c p x x.us.length x.us.length b) (j : J c x) (hb : b ≤ fromH x) : FixA w wr c s p x b := by
  have hf := j.fromH
  have hun := j.un
  have hs2 := hs.right
  have hfr : (rightN p 2).f 0 = x.us.length := hs2.frame j.j0r
  refine ⟨h.c6, ?_⟩
  obtain ⟨s', e1, e2, e3, hE, hT, hF⟩ := h.ea
  have hsa := hE.sa
  rw [hs2.fb, e2] at hsa
  have hlen := hs2.l.len
  have hat := Sav.sat_any wr s.sb s'.r 64 b (fromH x) s'.sv (rightN p 2).l hsa (by omega) (by omega)
  have eE : RingE.atE b (rightN p 2).l.length (fromH x) = 0 := by
    unfold RingE.atE
    rw [if_neg (by omega), if_neg (by omega)]
  have eX : (atX b (rightN p 2).l (fromH x)).1 = pl c.sd x.us (fromH x) := by
    unfold atX
    rw [if_neg (by omega), List.getD_eq_getElem?_getD]
    have := hs2.l.get (fromH x) hb hf.2.1
    rw [show ((fromH x : Int) - (b : Int)).toNat = fromH x - b by omega, this]
    rfl
  rw [eE, eX] at hat
  obtain ⟨D, LD⟩ := let_of (pl c.sd x.us (fromH x))
  refine ⟨D.toList, by rw [Array.length_toList]; exact LD.size, hat.mono ?_⟩
  rintro e w1 ⟨C', LC', he, hb1⟩
  have hCD : C' = D := by rw [LC'.eq, LD.eq]
  subst hCD
  refine ⟨he, ?_⟩
  obtain ⟨W3, hst, hrow, hb3⟩ := storeNew w1 LD
  refine ⟨W3, hst, hrow, ?_, ?_⟩
  · have hE3 := hE.below (hb1.trans (hb3.mono hb1.size))
    rw [← e1, ← hfr]
    exact hE3.c7
  · have hE3 := hE.below (hb1.trans (hb3.mono hb1.size))
    have ht2 : W3.there s'.g 7 C'.size := by rw [LD.size]; exact hE3.there
    obtain ⟨hE4, hT4⟩ := hE3.stored LD
    rw [e1] at ht2 hT4 hE4
    refine ⟨_, storeR_mid ht2 LD.info LD.one rfl, ⟨_, C', x.us.length, ?_, by omega, Nat.le_refl _, ⟨s', e1, e2, e3, hE4, ?_, hF⟩⟩⟩
    · refine ⟨hs2.q, hs2.fb, ⟨hs2.l.len, hs2.l.bt, fun k h1 h2 => hs2.l.get k h1 (by omega)⟩, rfl, hs2.ro, hs2.re, hs2.wo⟩
    · have T1 : Touch (fpE s) w W3 := hT.trans (Touch.of_below (S := fpE s) (hb1.trans (hb3.mono hb1.size))) (fun k hk => .inl hk)
      exact T1.trans hT4 (fun k hk => .inl (.inl hk))
section
variable {w wr : World} {c : Cfg} {s : SE} {y : H} {a m n b : Nat}
theorem Back.c7 (h : Back w wr c s y a m n b) (j : J0 c y) (hl : y.us.length = n) (hm : a + m ≤ n) : wr.cell? ⟨s.g, 7, none⟩ = some (.int .i64 ((a + m : Nat) : Int)) := by
  obtain ⟨p', C', top, hs, -, -, hM⟩ := h.h
  have := hM.c7
  rw [hs.frame (j.re a m (by omega))] at this
  exact this
theorem Back.step (h : Back w wr c s y a m n b) (j : J0 c y) (hl : y.us.length = n) (hm : a + m < n) (hlo : y.low ≤ a) (hb : b ≤ a) (h64 : n + 1 - b ≤ 64) :
    Calls Tryz.prog 38 #[.pointer (some ⟨s.g, 0, none⟩)] wr fun e w' => e = .returned (.int .i64 0) ∧ Back w w' c s y a (m + 1) n b := by
  obtain ⟨p', C', top, hs, h1, h2, hM⟩ := h.h
  have hl2 := reH_len y a m (by omega)
  have hsm := reH_same y a m
  obtain ⟨s', e1, e2, e3, hE, hT, hF⟩ := hM.ea
  have := step_sim wr c s' p' C' (reH y a m) (a + m) top b hE hs (j.re a m (by omega)) (by omega) (by omega) (by rw [hsm.2.2.1]; omega) (by omega) h1 (by omega)
  rw [if_neg (by omega), e1] at this
  refine this.mono fun e w' ⟨he, p2, hs2, ht⟩ => ⟨he, ?_⟩
  obtain ⟨s2, C2, ⟨f1, f2, f3⟩, hE2, T2, F2⟩ := ht
  refine ⟨⟨p2, C2, a + m + 1, hs2, Nat.le_refl _, by omega, ⟨s2, f1.trans e1, f2.trans e2, fun j => (f3 j).trans (e3 j), hE2, hT.trans T2 hF, fun k hk => ?_⟩⟩⟩
  rcases F2 k hk with a | a
  · exact hF k a
  · exact .inr (Nat.le_trans hT.size a)
/-- All is played again: the numbers of it. -/
theorem Back.done {x : H} (h : Back w wr c s (rH x) (fromH x) (fixN x) x.us.length b) (j : J c x) (h0 : ¬ fixN x = 0) :
    ∃ ro re wo : Int, ro = x.ro ∧ re = x.re ∧ wo = x.wo ∧ (wr.cell? ⟨s.g, 73, none⟩ = some (.int .i64 ro) ∧ wr.cell? ⟨s.g, 74, none⟩ = some (.int .i64 re) ∧ wr.cell? ⟨s.g, 75, none⟩ = some (.int .i64 wo)) ∧ (∀ j, wr.frozen? ⟨s.g, j, none⟩ = false) ∧
      ∀ m : Int, m = max x.wo (fixN x) → TurnedH w c s (fixH x) x.us.length x.us.length b (((wr.setCell ⟨s.g, 73, none⟩ (.int .i64 (ro + 1))).setCell ⟨s.g, 74, none⟩ (.int .i64 (re + fixN x))).setCell ⟨s.g, 75, none⟩ (.int .i64 m)) := by
  obtain ⟨p', C', top, hs, h1, h2, hM⟩ := h.h
  have hf := j.fromH
  have ha : fromH x + fixN x = x.us.length := by unfold fixN; omega
  rw [ha] at hs h1
  obtain rfl : top = x.us.length := by omega
  have hsm := reH_same (rH x) (fromH x) (fixN x)
  refine ⟨p'.ro, p'.re, p'.wo, by rw [hs.ro, hsm.2.2.2.1]; rfl, by rw [hs.re, hsm.2.2.2.2.1]; rfl, by rw [hs.wo, hsm.2.2.2.2.2]; rfl, hM.cs.1, hM.cs.2, fun m hm => ?_⟩
  obtain ⟨s', e1, e2, e3, hE, hT, hF⟩ := hM.ea
  have hE2 := ((hE.set73 (p'.ro + 1)).set74 (p'.re + fixN x)).set75 m
  rw [e1] at hE2
  refine ⟨{ p' with ro := p'.ro + 1, re := p'.re + fixN x, wo := m }, ⟨?_, hs.fb, ?_, ?_, ?_, ?_, ?_⟩, s', C', ⟨e1, e2, e3⟩, hE2, ?_, hF⟩
  · intro i hi
    have e : qH c (fixH x) i = qH c (reH (rH x) (fromH x) (fixN x)) i := by unfold fixH; rw [if_neg h0]; rfl
    rw [e]
    exact hs.q i hi
  · have e : (fixH x).us = (reH (rH x) (fromH x) (fixN x)).us := by unfold fixH; rw [if_neg h0]
    rw [e]
    exact hs.l
  · have e : (fixH x).us = (reH (rH x) (fromH x) (fixN x)).us := by unfold fixH; rw [if_neg h0]
    rw [e]
    exact hs.f
  · show p'.ro + 1 = _
    unfold fixH
    rw [if_neg h0, hs.ro, hsm.2.2.2.1]
    show (x.ro : Int) + 1 = ((x.ro + 1 : Nat) : Int)
    omega
  · show p'.re + fixN x = _
    unfold fixH
    rw [if_neg h0, hs.re, hsm.2.2.2.2.1]
    show (x.re : Int) + fixN x = ((x.re + fixN x : Nat) : Int)
    omega
  · show m = _
    unfold fixH
    rw [if_neg h0, hm]
  · have hg : fpE s s.g := .inl rfl
    exact ((hT.setCell (p := ⟨s.g, 73, none⟩) (.inl hg) _).setCell (p := ⟨s.g, 74, none⟩) (.inl hg) _).setCell (p := ⟨s.g, 75, none⟩) (.inl hg) _
end

section
attribute [local go_sem ↓] exec33 exec_st33
attribute [local go_sem] loadE33 loadI_some rowIn_drew
set_option maxRecDepth 100000 in
set_option maxHeartbeats 8000000 in
theorem fix_any (w : World) (c : Cfg) (s : SE) (p : P) (C : Array Value) (x : H) (b K : Nat) (h : EAt w c s p C) (hs : Sim c p x x.us.length x.us.length b) (j : J c x) (hb : b ≤ x.us.length - 16) (h64 : x.us.length + 1 - b ≤ 64) (hK : K ≤ 1000) (hro : x.ro ≤ K) (hre : x.re ≤ 200 * K) :
    Calls Tryz.prog 35 #[.pointer (some ⟨s.g, 0, none⟩)] w fun e w' => e = .returned (.int .i64 (fixN x : Int)) ∧ TurnedH w c s (fixH x) x.us.length x.us.length b w' := by
  have hf := j.fromH
  have hun := j.un
  have hfr : p.f 0 = x.us.length := hs.frame j.j0
  have hP := fun i hi => hs.fromP j.j0 i hi
  have pF := Lib.hid (fun W g v h => frame_any W g v h)
  have c4 := h.c4
  have c5 := h.c5
  have c7 := h.c7
  rw [hfr] at c7
  have HM := Lib.hid (Mid.start h)
  have HW := Lib.hid (fun wr i (hR : Mid w wr c s (rightN p i) C) (hi : i < 2) => hR.wrong hi)
  have HR := Lib.hid (show ∀ wr i, Mid w wr c s (rightN p i) C → i < 2 → Calls Tryz.prog 67 #[.pointer (some ⟨(s.ss i).q, 0, none⟩)] wr fun e w' => e = .returned (.tuple #[]) ∧ Mid w w' c s (rightN p (i + 1)) C from fun wr i hR hi => by
    have := hR.right hi
    rw [rightN_ge p i i (Nat.le_refl _)] at this
    exact this)
  have HA := Lib.hid (fun wr (hR : Mid w wr c s (rightN p 2) C) => hR.fixA hs j (by omega))
  have HB := Lib.hid (fun wr m (hR : Back w wr c s (rH x) (fromH x) m x.us.length b) (hm : fromH x + m ≤ x.us.length) => hR.c7 j.j0r rfl hm)
  have HS := Lib.hid (fun wr m (hR : Back w wr c s (rH x) (fromH x) m x.us.length b) (hm : fromH x + m < x.us.length) => hR.step j.j0r rfl hm (by have := j.lw; show x.low ≤ fromH x; omega) (by omega) (by omega))
  have HD := Lib.hid (fun wr (hR : Back w wr c s (rH x) (fromH x) (fixN x) x.us.length b) (h0 : ¬ fixN x = 0) => hR.done j h0)
  have H0 := Lib.hid (show ∀ wr, Mid w wr c s (rightN p 2) C → fixN x = 0 → TurnedH w c s (fixH x) x.us.length x.us.length b wr from fun wr hR h0 => by
    have e : fixH x = rH x := by unfold fixH; rw [if_pos h0]
    rw [e]
    obtain ⟨s', e1, e2, e3, hE, hT, hF⟩ := hR.ea
    exact ⟨_, hs.right, s', C, ⟨e1, e2, e3⟩, hE, hT, hF⟩)
  have HC7 := Lib.hid (show ∀ wr, Mid w wr c s (rightN p 2) C → wr.cell? ⟨s.g, 7, none⟩ = some (.int .i64 (x.us.length : Int)) from fun wr hR => by
    have := hR.c7
    rw [(rightN_f p 2).1, hfr] at this
    exact this)
  have HQ := Lib.hid (show ∀ i, i < 2 → ((rightN p i).qs i).wrong = (p.qs i).wrong from fun i hi => by rw [rightN_ge p i i (Nat.le_refl _)])
  have HN := Lib.hid (show fixN x = x.us.length - fromH x from rfl)
  have HP2 := Lib.hid (show Rl.fromP p 2 = (fromH x : Int) by rw [hP 2 (by omega)]; omega)
  have HP0 := Lib.hid (show Rl.fromP p 0 = (x.us.length : Int) by rw [hP 0 (by omega)]; rfl)
  have HPS := Lib.hid (show ∀ i, Rl.fromP p (i + 1) = if 0 ≤ (p.qs i).wrong then minI (Rl.fromP p i) (p.qs i).wrong else Rl.fromP p i from fun i => rfl)
  have HFA := Lib.hid (fun wr (hR : Mid w wr c s (rightN p 2) C) => (HA.out wr hR).st)
  have HF6 := Lib.hid (fun wr (hR : Mid w wr c s (rightN p 2) C) => (HA.out wr hR).c6)
  have hkn : fromH x + fixN x = x.us.length := by have := HN.out; omega
  have han := hf.2.1
  clear HA h hs j hP hfr HN hf
  generalize x.us.length = n at *
  generalize fromH x = a at *
  generalize fixN x = k at *
  generalize rH x = y at *
  go_enter Tryz.func35, Tryz.ntmps35
  go_wp2_with fail
  refine (pF.out _ _ _ c7).mono ?_
  rintro e w1 ⟨rfl, hw⟩
  obtain rfl := hw.symm
  go_wp2_with fail
  clear c4 c5 c7
  rw [← HP0.out]
  go_loopw [17, 3] (fun iv nv wr => ∃ i : Nat, i ≤ 2 ∧ iv = .int .i64 (i : Int) ∧ nv = .int .i64 (Rl.fromP p i) ∧ Mid w wr c s (rightN p i) C) (fun iv _ _ => 2 - (intOf iv).toNat)
  case atStart => exact ⟨0, by omega, rfl, rfl, HM.out⟩
  case round =>
    clear HM
    obtain ⟨i, hi, rfl, rfl, hR⟩ := hrel
    obtain rfl | rfl | rfl : i = 0 ∨ i = 1 ∨ i = 2 := by omega
    · rw [show ((0 : Nat) : Int) = 0 from rfl]
      have pw := Lib.hid (HW.out wr 0 hR (by omega))
      have pr := Lib.hid (HR.out wr 0 hR (by omega))
      have e := HPS.out 0
      rw [HQ.out 0 (by omega)] at pw
      obtain ⟨v, hv⟩ : ∃ v, (p.qs 0).wrong = v := ⟨_, rfl⟩
      obtain ⟨z, hz⟩ : ∃ z, Rl.fromP p 0 = z := ⟨_, rfl⟩
      rw [hv] at pw e
      rw [hz] at e ⊢
      by_cases h0 : 0 ≤ v
      · rw [if_pos h0] at e
        have E : (if v < z then v else z) = Rl.fromP p (0 + 1) := e.symm
        clear e hv hz HW HFA HF6 HB HS HD H0 HC7 HQ HPS HP0 HP2 hR
        go_wp2_with fail
        refine pw.out.mono ?_
        rintro e w2 ⟨rfl, hw⟩
        obtain rfl := hw.symm
        go_wp2_with fail
        refine pr.out.mono ?_
        rintro e w2 ⟨rfl, hM2⟩
        have HM2 := Lib.hid hM2
        clear hM2
        go_wp2_with fail
        go_roundw
        case rel => exact ⟨0 + 1, by omega, rfl, rfl, HM2.out⟩
        case measure => simp [intOf]
      · rw [if_neg h0] at e
        have E := Lib.hid (show z = Rl.fromP p (0 + 1) from e.symm)
        clear e hv hz HW HFA HF6 HB HS HD H0 HC7 HQ HPS HP0 HP2 hR
        go_wp2_with fail
        refine pw.out.mono ?_
        rintro e w2 ⟨rfl, hw⟩
        obtain rfl := hw.symm
        go_wp2_with fail
        refine pr.out.mono ?_
        rintro e w2 ⟨rfl, hM2⟩
        have HM2 := Lib.hid hM2
        clear hM2
        go_wp2_with fail
        go_roundw
        case rel => exact ⟨0 + 1, by omega, rfl, by rw [E.out], HM2.out⟩
        case measure => simp [intOf]
    · rw [show ((1 : Nat) : Int) = 1 from rfl]
      have pw := Lib.hid (HW.out wr 1 hR (by omega))
      have pr := Lib.hid (HR.out wr 1 hR (by omega))
      have e := HPS.out 1
      rw [HQ.out 1 (by omega)] at pw
      obtain ⟨v, hv⟩ : ∃ v, (p.qs 1).wrong = v := ⟨_, rfl⟩
      obtain ⟨z, hz⟩ : ∃ z, Rl.fromP p 1 = z := ⟨_, rfl⟩
      rw [hv] at pw e
      rw [hz] at e ⊢
      by_cases h0 : 0 ≤ v
      · rw [if_pos h0] at e
        have E : (if v < z then v else z) = Rl.fromP p (1 + 1) := e.symm
        clear e hv hz HW HFA HF6 HB HS HD H0 HC7 HQ HPS HP0 HP2 hR
        go_wp2_with fail
        refine pw.out.mono ?_
        rintro e w2 ⟨rfl, hw⟩
        obtain rfl := hw.symm
        go_wp2_with fail
        refine pr.out.mono ?_
        rintro e w2 ⟨rfl, hM2⟩
        have HM2 := Lib.hid hM2
        clear hM2
        go_wp2_with fail
        go_roundw
        case rel => exact ⟨1 + 1, by omega, rfl, rfl, HM2.out⟩
        case measure => simp [intOf]
      · rw [if_neg h0] at e
        have E := Lib.hid (show z = Rl.fromP p (1 + 1) from e.symm)
        clear e hv hz HW HFA HF6 HB HS HD H0 HC7 HQ HPS HP0 HP2 hR
        go_wp2_with fail
        refine pw.out.mono ?_
        rintro e w2 ⟨rfl, hw⟩
        obtain rfl := hw.symm
        go_wp2_with fail
        refine pr.out.mono ?_
        rintro e w2 ⟨rfl, hM2⟩
        have HM2 := Lib.hid hM2
        clear hM2
        go_wp2_with fail
        go_roundw
        case rel => exact ⟨1 + 1, by omega, rfl, by rw [E.out], HM2.out⟩
        case measure => simp [intOf]
    · rw [show ((2 : Nat) : Int) = 2 from rfl, HP2.out]
      have c7 := HC7.out wr hR
      have hw1 : IntKind.i64.wrap ((n : Int) - (a : Int)) = (n : Int) - (a : Int) := IntWalk.i64_in _ (by omega)
      by_cases hk0 : k = 0
      · have e0 : (n : Int) - (a : Int) = 0 := by omega
        have HT := Lib.hid (H0.out wr hR hk0)
        clear HW HR HFA HF6 HB HS HD H0 HC7 HQ HPS hR
        go_wp2_with fail
        refine (pF.out _ _ _ c7).mono ?_
        rintro e w1 ⟨rfl, hw⟩
        obtain rfl := hw.symm
        go_wp2_with fail
        go_ret
        exact ⟨by rw [hk0]; rfl, HT.out⟩
      · have e0 : ¬ (n : Int) - (a : Int) = 0 := by omega
        have c6 := HF6.out wr hR
        obtain ⟨D, hD66, pA⟩ := HFA.out wr hR
        have PA := Lib.hid pA
        have C7 := Lib.hid c7
        have hw2 : (n : Int) - (a : Int) = (k : Int) := by omega
        clear HW HR HFA HF6 H0 HC7 HQ HPS hR pA
        go_wp2_with fail
        refine (pF.out _ _ _ c7).mono ?_
        rintro e w1 ⟨rfl, hw⟩
        obtain rfl := hw.symm
        clear c7
        go_wp2_with fail
        refine PA.out.mono ?_
        rintro e w1 ⟨rfl, W3, hst, hrow, c7, W4, hst2, hB0⟩
        have HB0 := Lib.hid hB0
        clear hB0 PA c6
        go_wp2_with fail
        refine (pF.out _ _ _ c7).mono ?_
        rintro e w3 ⟨rfl, hw⟩
        obtain rfl := hw.symm
        go_wp2_with fail
        go_loopw [] (fun wr => ∃ m : Nat, a + m ≤ n ∧ Back w wr c s y a m n b) (fun wr => (n - frIn wr s.g).toNat)
        case atStart => exact ⟨0, by omega, HB0.out⟩
        case round =>
          clear hst hrow hst2 HB0 c7
          obtain ⟨m, hm, hBk⟩ := hrel
          have c7 := HB.out _ m hBk hm
          by_cases hlt : a + m < n
          · have hlt' : ((a + m : Nat) : Int) < (n : Int) := by omega
            have pS := Lib.hid (HS.out _ m hBk hlt)
            have HF := Lib.hid (show frIn wr s.g = ((a + m : Nat) : Int) by unfold frIn; rw [c7]; rfl)
            clear hBk HS HD
            go_wp2_with fail
            refine (pF.out _ _ _ c7).mono ?_
            rintro e w3 ⟨rfl, hw⟩
            obtain rfl := hw.symm
            clear c7
            go_wp2_with fail
            refine pS.out.mono ?_
            rintro e w5 ⟨rfl, hB5⟩
            have HB5 := Lib.hid hB5
            clear hB5
            go_wp2_with fail
            go_roundw
            case rel => exact ⟨m + 1, by omega, HB5.out⟩
            case measure =>
              have h5 := HB.out _ (m + 1) HB5.out (by omega)
              have h6 : frIn w5 s.g = ((a + (m + 1) : Nat) : Int) := by unfold frIn; rw [h5]; rfl
              rw [HF.out, h6]
              omega
          · have hlt' : ¬ ((a + m : Nat) : Int) < (n : Int) := by omega
            obtain rfl : m = k := by omega
            obtain ⟨ro, re, wo, hro2, hre2, hwo2, ⟨k73, k74, k75⟩, hfz, hfin⟩ := HD.out wr hBk hk0
            have HFIN := Lib.hid hfin
            have f73 := hfz 73
            have f74 := hfz 74
            have f75 := hfz 75
            obtain ⟨mx, hmx⟩ : ∃ mx : Int, (if wo < (m : Int) then (m : Int) else wo) = mx := ⟨_, rfl⟩
            have HMX := Lib.hid (show mx = max x.wo m by rw [← hmx, hwo2]; omega)
            have v1 : IntKind.i64.wrap (ro + 1) = ro + 1 := IntWalk.i64_in _ (by omega)
            have v2 : IntKind.i64.wrap (re + (m : Int)) = re + (m : Int) := IntWalk.i64_in _ (by omega)
            clear hBk HS HD HB hfin hfz hro2 hre2 hwo2
            go_wp2_with fail
            refine (pF.out _ _ _ c7).mono ?_
            rintro e w3 ⟨rfl, hw⟩
            obtain rfl := hw.symm
            clear c7
            go_wp2_with fail
            go_ret
            exact ⟨rfl, HFIN.out _ HMX.out⟩
end
end Go.Proofs.YtckkpgopddnkiaaGreat.Rl
namespace Go.Proofs.YtckkpgopddnkiaaGreat.Rl
open Go.RowKit Go.Sort Go.Proofs.YtckkpgopddnkiaaGreat.Gm Go.Proofs.YtckkpgopddnkiaaGreat.RingE Go.Proofs.YtckkpgopddnkiaaGreat.Inputq
set_option linter.all false
attribute [local go_sem] idx0 idx1

def confH (x : H) : Int := minI (x.ks 0).length (x.ks 1).length
def sureHN (x : H) : Nat → Int
  | 0 => minI (confH x) x.us.length
  | i + 1 => if 0 ≤ x.wr i then minI (sureHN x i) (x.wr i) else sureHN x i
def sureH (x : H) : Int := sureHN x 2
section
variable {w wr : World} {c : Cfg} {s : SE} {p : P} {C : Array Value} {x : H} {fr top b : Nat}
theorem Sim.conf (h : Sim c p x fr top b) (j : J0 c x) : confP p = confH x := by
  unfold confP confH
  rw [h.nx j (by omega), h.nx j (by omega)]
theorem Sim.sure (h : Sim c p x x.us.length top b) (j : J0 c x) : sureP p = sureH x := by
  have key : ∀ i, i ≤ 2 → sureN p i = sureHN x i := by
    intro i
    induction i with
    | zero =>
      intro _
      show minI (confP p) (p.f 0) = minI (confH x) x.us.length
      rw [h.conf j, h.frame j]
    | succ i ih =>
      intro hi
      have e : (p.qs i).wrong = x.wr i := by rw [h.q i (by omega)]; rfl
      show (if 0 ≤ (p.qs i).wrong then minI (sureN p i) (p.qs i).wrong else sureN p i) = (if 0 ≤ x.wr i then minI (sureHN x i) (x.wr i) else sureHN x i)
      rw [e, ih (by omega)]
  exact key 2 (by omega)
theorem sureH_le (x : H) : sureH x ≤ x.us.length ∧ sureH x ≤ (x.ks 0).length ∧ sureH x ≤ (x.ks 1).length ∧ sureH x ≤ confH x := by
  have a := minI_le (confH x) x.us.length
  have b := minI_le (x.ks 0).length (x.ks 1).length
  have c := minI_le (sureHN x 0) (x.wr 0)
  have d := minI_le (sureHN x 1) (x.wr 1)
  have e0 : sureHN x 0 = minI (confH x) x.us.length := rfl
  have e1 : sureHN x 1 = if 0 ≤ x.wr 0 then minI (sureHN x 0) (x.wr 0) else sureHN x 0 := rfl
  have e2 : sureH x = if 0 ≤ x.wr 1 then minI (sureHN x 1) (x.wr 1) else sureHN x 1 := rfl
  have ec : confH x = minI (x.ks 0).length (x.ks 1).length := rfl
  split at e1 <;> split at e2 <;> omega

def dropP (p : P) (m : Int) : Nat → P
  | 0 => p
  | i + 1 => { dropP p m i with qs := upd (dropP p m i).qs i (dropQ (p.qs i) m) }
theorem dropP_ge (p : P) (m : Int) : ∀ i j, i ≤ j → (dropP p m i).qs j = p.qs j
  | 0, _, _ => rfl
  | i + 1, j, h => by
    show upd (dropP p m i).qs i _ j = _
    rw [upd_ne _ _ (by omega)]
    exact dropP_ge p m i j (by omega)
theorem Sim.drop (h : Sim c p x fr top b) (j : J0 c x) {m : Int} (h1 : m ≤ x.us.length) (h2 : ∀ i, i < 2 → m ≤ (x.ks i).length) : Sim c (dropP p m 2) (lowH x m) fr top b := by
  refine ⟨fun i hi => ?_, h.fb, h.l, h.f, h.ro, h.re, h.wo⟩
  have e : (dropP p m 2).qs i = dropQ (p.qs i) m := by
    obtain rfl | rfl : i = 0 ∨ i = 1 := by omega
    · rfl
    · rfl
  rw [e, h.q i hi]
  exact qH_dropQ h1 (h2 i hi) (j.ll i hi) j.lu
theorem Mid.drop {m : Int} {i : Nat} (h : Mid w wr c s (dropP p m i) C) (hi : i < 2) (ok : Ok (p.qs i)) (hm : m ≤ 1000000) :
    Calls Tryz.prog 39 #[.pointer (some ⟨(s.ss i).q, 0, none⟩), .int .i64 m] wr fun e w' => e = .returned (.tuple #[]) ∧ Mid w w' c s (dropP p m (i + 1)) C := by
  have e := dropP_ge p m i i (Nat.le_refl _)
  exact h.queue hi (fun s' e' hq => by rw [← e'] ; rw [e] at hq; exact drop_any wr s' (p.qs i) m hq ok (by omega))
theorem Mid.of {p' : P} {W : World} (h : TurnedE w c s p' W) : ∃ C', Mid w W c s p' C' := by
  obtain ⟨s', C', ⟨e1, e2, e3⟩, hE, hT, hF⟩ := h
  exact ⟨C', ⟨s', e1, e2, e3, hE, hT, hF⟩⟩
theorem Mid.out (h : Mid w wr c s p C) : TurnedE w c s p wr := by
  obtain ⟨s', e1, e2, e3, hE, hT, hF⟩ := h.ea
  exact ⟨s', C, ⟨e1, e2, e3⟩, hE, hT, hF⟩
theorem Mid.local (h : Mid w wr c s p C) (hlo : c.lo < 2) : Calls Tryz.prog 36 #[.pointer (some ⟨s.g, 0, none⟩)] wr fun e w' => e = .returned (.pointer (some ⟨(s.ss c.lo).q, 0, none⟩)) ∧ ∃ n, w' = wr.drewN n := by
  obtain ⟨s', e1, e2, e3, hE, hT, hF⟩ := h.ea
  have := local_any wr c s' p C hE hlo
  rw [e1, e3] at this
  exact this
theorem Mid.sure (h : Mid w wr c s p C) (ok : OkE c p) : Calls Tryz.prog 24 #[.pointer (some ⟨s.g, 0, none⟩)] wr fun e w' => e = .returned (.int .i64 (sureP p)) ∧ ∃ n, w' = wr.drewN n := by
  obtain ⟨s', e1, e2, e3, hE, hT, hF⟩ := h.ea
  have := sure_any wr c s' p C hE ok
  rw [e1] at this
  exact this
theorem Mid.c45 (h : Mid w wr c s p C) : wr.cell? ⟨s.g, 4, none⟩ = some (.pointer (some ⟨(s.ss 0).q, 0, none⟩)) ∧ wr.cell? ⟨s.g, 5, none⟩ = some (.pointer (some ⟨(s.ss 1).q, 0, none⟩)) := by
  obtain ⟨s', e1, e2, e3, hE, hT, hF⟩ := h.ea
  have a := hE.c4
  have b := hE.c5
  rw [e1, e3] at a b
  exact ⟨a, b⟩
end

/-- Told by the history: the engine in memory, what a call leaves. -/
def HAt (w : World) (c : Cfg) (s : SE) (x : H) : Prop := ∃ p C, EAt w c s p C ∧ Sim c p x x.us.length x.us.length (x.us.length - 63)
def HTurn (w : World) (c : Cfg) (s : SE) (x' : H) (w' : World) : Prop := TurnedH w c s x' x'.us.length x'.us.length (x'.us.length - 63) w'
theorem HTurn.at {w w' : World} {c : Cfg} {s : SE} {x' : H} (h : HTurn w c s x' w') : ∃ s', Same s' s ∧ HAt w' c s' x' ∧ Touch (fpE s) w w' ∧ ∀ k, fpE s' k → fpE s k ∨ w.heap.size ≤ k := by
  obtain ⟨p', hs, s', C', e, hE, hT, hF⟩ := h
  exact ⟨s', e, ⟨p', C', hE, hs⟩, hT, hF⟩
theorem HAt.lt {w : World} {c : Cfg} {s : SE} {x : H} (h : HAt w c s x) : ∀ k, fpE s k → k < w.heap.size := by
  obtain ⟨p, C, hE, -⟩ := h
  exact hE.lt
theorem HAt.below {w w' : World} {c : Cfg} {s : SE} {x : H} (h : HAt w c s x) (hb : Below w.heap.size w w') : HAt w' c s x := by
  obtain ⟨p, C, hE, hs⟩ := h
  exact ⟨p, C, hE.below hb, hs⟩
theorem HAt.touch {w w' : World} {c : Cfg} {s : SE} {x : H} {S : Nat → Prop} (h : HAt w c s x) (ht : Touch S w w') (hS : ∀ k, fpE s k → ¬ S k) : HAt w' c s x := by
  obtain ⟨p, C, hE, hs⟩ := h
  exact ⟨p, C, hE.touch ht hS, hs⟩
theorem HTurn.same {w w' : World} {c : Cfg} {s : SE} {x : H} (h : HAt w c s x) (hb : Below w.heap.size w w') : HTurn w c s x w' := by
  obtain ⟨p, C, hE, hs⟩ := h
  exact ⟨p, hs, TurnedE.refl hE hb⟩
theorem HTurn.trans {w w1 w2 : World} {c : Cfg} {s : SE} {x1 x2 : H} (h : HTurn w c s x1 w1) (k : ∀ s', Same s' s → HAt w1 c s' x1 → HTurn w1 c s' x2 w2) : HTurn w c s x2 w2 := by
  obtain ⟨p1, hs1, s1, C1, e1, hE1, hT1, hF1⟩ := h
  obtain ⟨p2, hs2, s2, C2, e2, hE2, hT2, hF2⟩ := k s1 e1 ⟨p1, C1, hE1, hs1⟩
  refine ⟨p2, hs2, s2, C2, e2.trans e1, hE2, hT1.trans hT2 hF1, fun k hk => ?_⟩
  rcases hF2 k hk with a | a
  · exact hF1 k a
  · exact .inr (Nat.le_trans hT1.size a)

def advT (c : Cfg) (x : H) : Prop := c.ah ≤ (x.us.length : Int) - confH x
instance (c : Cfg) (x : H) : Decidable (advT c x) := by unfold advT; infer_instance
def adv1 (c : Cfg) (x : H) (v : Nat) : H := addH (fixH x) c.lo v
def adv2 (c : Cfg) (x : H) (v : Nat) : H := stepH (adv1 c x v) x.us.length
def adv3 (c : Cfg) (x : H) (v : Nat) : H := lowH (adv2 c x v) (sureH (adv2 c x v) - 64)
def advH (c : Cfg) (x : H) (v : Nat) : H := if advT c x then x else adv3 c x v
def advE (c : Cfg) (x : H) : Int := if advT c x then 250 else 0
section
variable {c : Cfg} {x : H} {v : Nat}
theorem adv1_same (j : J c x) (v : Nat) : (adv1 c x v).ks = upd x.ks c.lo (x.ks c.lo ++ [v]) ∧ (adv1 c x v).us = (fixH x).us ∧ (∀ i, i < 2 → (adv1 c x v).wr i = -1) ∧ (adv1 c x v).low = x.low ∧ (adv1 c x v).us.length = x.us.length := by
  obtain ⟨e1, e2, e3⟩ := fixH_same x
  have el := fixH_len j
  have hlk := j.lk
  have hde := j.de
  refine ⟨by unfold adv1 addH; rw [e1], rfl, fun i hi => ?_, e3, el⟩
  show upd (fixH x).wr c.lo (wrongA (fixH x) c.lo v) i = -1
  have hw : wrongA (fixH x) c.lo v = -1 := by
    unfold wrongA
    rw [e1, e2, if_neg]
    rintro ⟨h, -⟩
    rw [el] at h
    omega
  rw [hw, e2]
  by_cases h : i = c.lo
  · subst h; exact upd_at _ _ _
  · exact upd_ne _ _ h
theorem adv1_j0 (j : J c x) (hv : v < 65536) : J0 c (adv1 c x v) := by
  obtain ⟨e1, e2, e3, e4, e5⟩ := adv1_same j v
  have hlk := j.lk
  have hde := j.de
  have hun := j.un
  refine ⟨j.sd, j.lo, j.ah, by rw [e5]; exact hun, fun i hi => ?_, fun i hi u hu => ?_, fun i hi => ?_, by rw [e4, e5]; have := j.lw; omega, fun i hi => by rw [e3 i hi]; omega⟩
  · rw [e1]
    by_cases h : i = c.lo
    · subst h; rw [upd_at, List.length_append, List.length_singleton]; omega
    · rw [upd_ne _ _ h]; exact j.kn i hi
  · rw [e1] at hu
    by_cases h : i = c.lo
    · subst h
      rw [upd_at] at hu
      rcases List.mem_append.1 hu with hu | hu
      · exact j.kv _ hi u hu
      · rw [List.mem_singleton.1 hu]; exact hv
    · rw [upd_ne _ _ h] at hu; exact j.kv i hi u hu
  · rw [e1, e4]
    have := j.ll i hi
    by_cases h : i = c.lo
    · subst h; rw [upd_at, List.length_append]; omega
    · rw [upd_ne _ _ h]; exact this
theorem adv2_j0 (j : J c x) (hv : v < 65536) (hn : x.us.length < 110) : J0 c (adv2 c x v) ∧ (adv2 c x v).us.length = x.us.length + 1 := by
  have h := adv1_j0 j hv
  have e5 := (adv1_same j v).2.2.2.2
  refine ⟨h.step (by omega) hn, ?_⟩
  show (setAt (adv1 c x v).us x.us.length _).length = _
  rw [setAt_len (by omega)]
  omega
theorem adv_sure (j : J c x) (hv : v < 65536) (hn : x.us.length < 110) : sureH (adv2 c x v) - 64 ≤ (adv2 c x v).us.length ∧ ∀ i, i < 2 → sureH (adv2 c x v) - 64 ≤ ((adv2 c x v).ks i).length := by
  have h := sureH_le (adv2 c x v)
  refine ⟨by omega, fun i hi => ?_⟩
  obtain rfl | rfl : i = 0 ∨ i = 1 := by omega
  · omega
  · omega
/-- The history behind an Advance is right. -/
theorem J.adv (j : J c x) (hv : v < 65536) (hn : x.us.length < 110) : J c (advH c x v) := by
  unfold advH
  split
  · exact j
  · rename_i hT
    unfold advT at hT
    obtain ⟨e1, e2, e3, e4, e5⟩ := adv1_same j v
    obtain ⟨j2, hl2⟩ := adv2_j0 j hv hn
    have hf := j.fromH
    have hlk := j.lk
    have hs := sureH_le (adv2 c x v)
    have hS := adv_sure j hv hn
    have hlw : (adv3 c x v).low = if sureH (adv2 c x v) - 64 ≤ (x.low : Int) then x.low else (sureH (adv2 c x v) - 64).toNat := by
      show (if sureH (adv2 c x v) - 64 ≤ ((adv2 c x v).low : Int) then (adv2 c x v).low else _) = _
      have : (adv2 c x v).low = x.low := e4
      rw [this]
    have hks : (adv3 c x v).ks = upd x.ks c.lo (x.ks c.lo ++ [v]) := e1
    have hus : (adv3 c x v).us = setAt (adv1 c x v).us x.us.length (thx (adv1 c x v) x.us.length) := rfl
    have hul : (adv3 c x v).us.length = x.us.length + 1 := hl2
    have hcf := minI_le (x.ks 0).length (x.ks 1).length
    have hkk : ∀ i, i < 2 → (x.ks i).length ≤ ((adv3 c x v).ks i).length := fun i hi => by
      rw [hks]
      by_cases h : i = c.lo
      · subst h; rw [upd_at, List.length_append]; omega
      · rw [upd_ne _ _ h]
        exact Nat.le_refl _
    refine ⟨j.sd, j.lo, j.ah, j.de, by rw [hul]; omega, j2.kv, fun i hi => ?_, ?_, fun i hi => .inl (e3 i hi), fun i hi => ?_, ?_, ?_, fun i hi k hk hk2 _ => ?_⟩
    · rw [hlw]
      have a := hkk i hi
      have b := hS.2 i hi
      have c' := j.ll i hi
      have e : ((adv2 c x v).ks i).length = ((adv3 c x v).ks i).length := rfl
      split <;> omega
    · rw [hlw, hul]
      have := j.lw
      split <;> omega
    · rw [hul]
      have a := hkk i hi
      have hc : confH x ≤ (x.ks i).length := by
        unfold confH
        obtain rfl | rfl : i = 0 ∨ i = 1 := by omega
        · omega
        · omega
      omega
    · rw [hks, hul, upd_at, List.length_append, List.length_singleton]
      omega
    · rw [hks, hul, upd_ne _ _ (by have := j.lo; omega)]
      have := j.rk
      omega
    · rw [hul] at hk
      rw [col_get, hus, setAt_get (by omega)]
      by_cases h : k = x.us.length
      · rw [if_pos h, Option.map_some, one_thx _ _ hi]
        subst h
        exact th_known hk2
      · rw [if_neg h, e2, ← col_get]
        have hk3 : k < (x.ks i).length := by
          rw [hks] at hk2
          by_cases h2 : i = c.lo
          · subst h2
            have := j.de
            omega
          · rw [upd_ne _ _ h2] at hk2; exact hk2
        have := j.fix.ag i hi k (by rw [fixH_len j]; omega) (by rw [(fixH_same x).1]; exact hk3) (.inl (by rw [(fixH_same x).2.1]))
        rw [this, (fixH_same x).1, hks]
        by_cases h2 : i = c.lo
        · subst h2; rw [upd_at, List.getElem?_append_left hk3]
        · rw [upd_ne _ _ h2]
theorem advH_len (j : J c x) (hv : v < 65536) (hn : x.us.length < 110) : (advH c x v).us.length = if advT c x then x.us.length else x.us.length + 1 := by
  unfold advH
  split
  · rfl
  · exact (adv2_j0 j hv hn).2
end
end Go.Proofs.YtckkpgopddnkiaaGreat.Rl
namespace Go.Proofs.YtckkpgopddnkiaaGreat.Rl
open Go.RowKit Go.Sort Go.Proofs.YtckkpgopddnkiaaGreat.Gm Go.Proofs.YtckkpgopddnkiaaGreat.RingE Go.Proofs.YtckkpgopddnkiaaGreat.Inputq
set_option linter.all false
attribute [local go_sem] idx0 idx1

section
variable {w : World} {c : Cfg} {s : SE} {x : H}
theorem HAt.ok {p : P} (h : Sim c p x x.us.length x.us.length (x.us.length - 63)) (j : J0 c x) : OkE c p := h.ok j (Nat.le_refl _) (Nat.le_refl _) (by omega)
theorem frame_h (h : HAt w c s x) (j : J0 c x) : w.cell? ⟨s.g, 7, none⟩ = some (.int .i64 (x.us.length : Int)) := by
  obtain ⟨p, C, hE, hs⟩ := h
  have := hE.c7
  rw [hs.frame j] at this
  exact this
theorem sure_h (h : HAt w c s x) (j : J0 c x) : Calls Tryz.prog 24 #[.pointer (some ⟨s.g, 0, none⟩)] w fun e w' => e = .returned (.int .i64 (sureH x)) ∧ ∃ n, w' = w.drewN n := by
  obtain ⟨p, C, hE, hs⟩ := h
  have := sure_any w c s p C hE (HAt.ok hs j)
  rw [hs.sure j] at this
  exact this
theorem conf_h (h : HAt w c s x) (j : J0 c x) : Calls Tryz.prog 47 #[.pointer (some ⟨s.g, 0, none⟩)] w fun e w' => e = .returned (.int .i64 (confH x)) ∧ ∃ n, w' = w.drewN n := by
  obtain ⟨p, C, hE, hs⟩ := h
  have := conf_any w c s p C hE (HAt.ok hs j)
  rw [hs.conf j] at this
  exact this
theorem may_h (h : HAt w c s x) (j : J0 c x) : Calls Tryz.prog 34 #[.pointer (some ⟨s.g, 0, none⟩)] w fun e w' => e = .returned (.int .i64 (advE c x)) ∧ ∃ n, w' = w.drewN n := by
  obtain ⟨p, C, hE, hs⟩ := h
  have := may_any w c s p C hE (HAt.ok hs j)
  have e : mayE c p = advE c x := by
    unfold mayE advE advT
    rw [hs.conf j, hs.frame j]
  rw [e] at this
  exact this
theorem rolls_h (h : HAt w c s x) : Calls Tryz.prog 17 #[.pointer (some ⟨s.g, 0, none⟩)] w fun e w' => e = .returned (.int .i64 (x.ro : Int)) ∧ w' = w := by
  obtain ⟨p, C, hE, hs⟩ := h
  have := rolls_any w s.g _ hE.c73
  rw [hs.ro] at this
  exact this
theorem fix_h (h : HAt w c s x) (j : J c x) (K : Nat) (hK : K ≤ 1000) (hro : x.ro ≤ K) (hre : x.re ≤ 200 * K) :
    Calls Tryz.prog 35 #[.pointer (some ⟨s.g, 0, none⟩)] w fun e w' => e = .returned (.int .i64 (fixN x : Int)) ∧ HTurn w c s (fixH x) w' := by
  obtain ⟨p, C, hE, hs⟩ := h
  have := fix_any w c s p C x (x.us.length - 63) K hE hs j (by omega) (by omega) hK hro hre
  unfold HTurn
  rw [fixH_len j]
  exact this
/-- AddRemote at the history. -/
def addHT (c : Cfg) (x : H) : Prop := 128 ≤ ((x.ks (1 - c.lo)).length : Int) - x.us.length
instance (c : Cfg) (x : H) : Decidable (addHT c x) := by unfold addHT; infer_instance
def addHR (c : Cfg) (x : H) (v : Nat) : H := if addHT c x then x else addH x (1 - c.lo) v
def addHN (c : Cfg) (x : H) : Int := if addHT c x then 0 else ((x.ks (1 - c.lo)).length : Int)
def addHC (c : Cfg) (x : H) : Int := if addHT c x then 2 else 0
theorem addRemote_h (h : HAt w c s x) (j : J c x) (v : Nat) :
    Calls Tryz.prog 16 #[.pointer (some ⟨s.g, 0, none⟩), .int .u16 v] w fun e w' => e = .returned (.tuple #[.int .i64 (addHN c x), .int .i64 (addHC c x)]) ∧ HTurn w c s (addHR c x v) w' := by
  obtain ⟨p, C, hE, hs⟩ := h
  have hi : 1 - c.lo < 2 := by omega
  have hc := addRemote_any w c s p C v hE (HAt.ok hs j.j0)
  have eT : addT c p ↔ addHT c x := by
    unfold addT addHT
    rw [hs.nx j.j0 hi, hs.frame j.j0]
  have eN : addN c p = addHN c x := by
    unfold addN addHN
    by_cases h : addHT c x
    · rw [if_pos (eT.2 h), if_pos h]
    · rw [if_neg (fun h' => h (eT.1 h')), if_neg h, hs.nx j.j0 hi]
  have eC : addC c p = addHC c x := by
    unfold addC addHC
    by_cases h : addHT c x
    · rw [if_pos (eT.2 h), if_pos h]
    · rw [if_neg (fun h' => h (eT.1 h')), if_neg h]
  rw [eN, eC] at hc
  refine hc.mono fun e w' ⟨h1, ht⟩ => ⟨h1, ?_⟩
  have eu : (addHR c x v).us = x.us := by unfold addHR; split <;> rfl
  unfold HTurn
  rw [eu]
  refine ⟨addR c p v, ?_, ht⟩
  unfold addR addHR
  by_cases h : addHT c x
  · rw [if_pos (eT.2 h), if_pos h]; exact hs
  · rw [if_neg (fun h' => h (eT.1 h')), if_neg h]
    refine ⟨fun i hi2 => ?_, hs.fb, hs.l, hs.f, hs.ro, hs.re, hs.wo⟩
    show upd p.qs (1 - c.lo) _ i = _
    by_cases e : i = 1 - c.lo
    · subst e
      rw [upd_at, hs.q _ hi]
      have := j.kn _ hi
      have := j.wb _ hi
      exact qH_addQ (j.ll _ hi) j.j0.lu (by omega) (by omega)
    · rw [upd_ne _ _ e, hs.q _ hi2, qH_add_other e]
end

/-- What a later call needs of the engine behind Fix. -/
structure AdvA (w w1 : World) (c : Cfg) (s : SE) (x : H) (v : Nat) : Prop where
  pL : Calls Tryz.prog 36 #[.pointer (some ⟨s.g, 0, none⟩)] w1 fun e w' => e = .returned (.pointer (some ⟨(s.ss c.lo).q, 0, none⟩)) ∧ ∃ n, w' = w1.drewN n
  pA : ∀ n, Calls Tryz.prog 37 #[.pointer (some ⟨(s.ss c.lo).q, 0, none⟩), .int .u16 v] (w1.drewN n) fun e w2 => (∃ z, e = .returned (.int .i64 z)) ∧
    Calls Tryz.prog 38 #[.pointer (some ⟨s.g, 0, none⟩)] w2 fun e w3 => e = .returned (.int .i64 0) ∧
      Calls Tryz.prog 24 #[.pointer (some ⟨s.g, 0, none⟩)] w3 fun e w4 => e = .returned (.int .i64 (sureH (adv2 c x v))) ∧
        w4.cell? ⟨s.g, 4, none⟩ = some (.pointer (some ⟨(s.ss 0).q, 0, none⟩)) ∧ w4.cell? ⟨s.g, 5, none⟩ = some (.pointer (some ⟨(s.ss 1).q, 0, none⟩)) ∧
        ∃ p' C', Mid w w4 c s (dropP p' (sureH (adv2 c x v) - 64) 0) C' ∧
          (∀ wr i, Mid w wr c s (dropP p' (sureH (adv2 c x v) - 64) i) C' → i < 2 → Calls Tryz.prog 39 #[.pointer (some ⟨(s.ss i).q, 0, none⟩), .int .i64 (sureH (adv2 c x v) - 64)] wr fun e w' => e = .returned (.tuple #[]) ∧ Mid w w' c s (dropP p' (sureH (adv2 c x v) - 64) (i + 1)) C') ∧
          (∀ wr, Mid w wr c s (dropP p' (sureH (adv2 c x v) - 64) 2) C' → HTurn w c s (adv3 c x v) wr)
theorem advA_of {w w1 : World} {c : Cfg} {s : SE} {x : H} {v : Nat} (h : HTurn w c s (fixH x) w1) (j : J c x) (hv : v < 65536) (hn : x.us.length < 110) : AdvA w w1 c s x v := by
  obtain ⟨p, hs, hT⟩ := h
  rw [fixH_len j] at hs
  obtain ⟨C, hM⟩ := Mid.of hT
  have jf := j.fix
  have hl1 := fixH_len j
  have hok : OkE c p := hs.ok jf.j0 (by omega) (by omega) (by omega)
  have hlo := j.lo
  refine ⟨hM.local j.lo, fun n => ?_⟩
  have e5 := adv1_same j v
  have ad : Calls Tryz.prog 37 #[.pointer (some ⟨(s.ss c.lo).q, 0, none⟩), .int .u16 v] (w1.drewN n) fun e w' => e = .returned (.int .i64 ((p.qs c.lo).kf + (p.qs c.lo).kl.length)) ∧ Mid w w' c s { p with qs := upd p.qs c.lo (addQ (p.qs c.lo) v) } C :=
    (hM.drewN n).queue hlo (fun s' e hq => by rw [← e]; exact add_any _ s' (p.qs c.lo) v hq (hok.q _ hlo))
  refine ad.mono fun e w2 ⟨h1, hM2⟩ => ⟨⟨_, h1⟩, ?_⟩
  -- behind Add
  have hs1 : Sim c { p with qs := upd p.qs c.lo (addQ (p.qs c.lo) v) } (adv1 c x v) x.us.length x.us.length (x.us.length - 63) := by
    refine ⟨fun i hi => ?_, hs.fb, hs.l, hs.f, hs.ro, hs.re, hs.wo⟩
    show upd p.qs c.lo _ i = _
    by_cases e : i = c.lo
    · subst e
      rw [upd_at, hs.q _ hi]
      have h1 := jf.kn _ hi
      have h2 := jf.j0.wr _ hi
      have h3 := (fixH_same x).2.1
      refine qH_addQ (jf.ll _ hi) jf.j0.lu (by omega) (by rw [h3]; show (-1 : Int) ≤ _; omega)
    · rw [upd_ne _ _ e, hs.q _ hi]
      exact (qH_add_other e).symm
  obtain ⟨s', e1, e2, e3, hE, hT2, hF2⟩ := hM2.ea
  have j1 := adv1_j0 j hv
  have hlw := j.lw
  have st := step_sim w2 c s' _ C (adv1 c x v) x.us.length x.us.length (x.us.length - 63) hE hs1 j1 (by omega) (by omega) (by rw [e5.2.2.2.1]; omega) (by omega) (Nat.le_refl _) (by omega)
  rw [e1] at st
  refine st.mono fun e w3 ⟨h2, ht3⟩ => ⟨h2, ?_⟩
  obtain ⟨p3, hs3, ht3⟩ := ht3
  obtain ⟨j2, hl2⟩ := adv2_j0 j hv hn
  have hs3' : Sim c p3 (adv2 c x v) (x.us.length + 1) (x.us.length + 1) (x.us.length + 1 - 63) := by
    have e : (if x.us.length + 1 - (x.us.length - 63) = 64 then x.us.length - 63 + 1 else x.us.length - 63) = x.us.length + 1 - 63 := by split <;> omega
    rw [e] at hs3
    exact hs3
  obtain ⟨s3, C3, ⟨f1, f2, f3⟩, hE3, T3, F3⟩ := ht3
  have hM3 : Mid w w3 c s p3 C3 := ⟨s3, f1.trans e1, f2.trans e2, fun j => (f3 j).trans (e3 j), hE3, hT2.trans T3 hF2, fun k hk => by
    rcases F3 k hk with a | a
    · exact hF2 k a
    · exact .inr (Nat.le_trans hT2.size a)⟩
  have hok3 : OkE c p3 := hs3'.ok j2 (by omega) (by omega) (by omega)
  have su := hM3.sure hok3
  have hs3'' : Sim c p3 (adv2 c x v) (adv2 c x v).us.length (x.us.length + 1) (x.us.length + 1 - 63) := by rw [hl2]; exact hs3'
  rw [hs3''.sure j2] at su
  refine su.mono fun e w4 ⟨h3, m, hm⟩ => ?_
  subst hm
  have hM4 := hM3.drewN m
  have hS := adv_sure j hv hn
  refine ⟨h3, hM4.c45.1, hM4.c45.2, p3, C3, hM4, fun wr i hR hi => hR.drop hi (hok3.q i hi) (by omega), fun wr hR => ?_⟩
  have hd := hs3'.drop j2 hS.1 hS.2
  have el : (adv3 c x v).us.length = x.us.length + 1 := hl2
  unfold HTurn
  rw [el]
  exact ⟨_, hd, hR.out⟩

set_option maxRecDepth 100000 in
set_option maxHeartbeats 8000000 in
theorem advance_h (w : World) (c : Cfg) (s : SE) (x : H) (v K : Nat) (h : HAt w c s x) (j : J c x) (hv : v < 65536) (hn : x.us.length < 110) (hK : K ≤ 1000) (hro : x.ro ≤ K) (hre : x.re ≤ 200 * K) :
    Calls Tryz.prog 15 #[.pointer (some ⟨s.g, 0, none⟩), .int .u16 v] w fun e w' => e = .returned (.int .i64 (advE c x)) ∧ HTurn w c s (advH c x v) w' := by
  have pM := Lib.hid (may_h h j.j0)
  by_cases hT : advT c x
  · have E := Lib.hid (show advE c x = 250 from if_pos hT)
    have E2 := Lib.hid (show advH c x v = x from if_pos hT)
    have HS := Lib.hid (fun n => HTurn.same h (below_drewN (Below.refl _ w) n))
    rw [E.out] at pM
    rw [E.out, E2.out]
    clear h j hT
    go_enter Tryz.func15, Tryz.ntmps15
    go_wp2_with fail
    refine pM.out.mono ?_
    rintro e w1 ⟨rfl, n, rfl⟩
    go_wp2_with fail
    go_ret
    exact ⟨rfl, HS.out n⟩
  · have E := Lib.hid (show advE c x = 0 from if_neg hT)
    have E2 := Lib.hid (show advH c x v = adv3 c x v from if_neg hT)
    rw [E.out] at pM
    rw [E.out, E2.out]
    have pF := Lib.hid (fun n => fix_h (h.below (below_drewN (Below.refl _ w) n)) j K hK hro hre)
    have HA := Lib.hid (show ∀ n w1, HTurn (w.drewN n) c s (fixH x) w1 → AdvA w w1 c s x v from fun n w1 ht => by
      refine advA_of ?_ j hv hn
      obtain ⟨p, hs, s', C', e, hE, hT, hF⟩ := ht
      exact ⟨p, hs, s', C', e, hE, ⟨hT.os, hT.tape, hT.output, hT.size, hT.block⟩, hF⟩)
    have hsu := sureH_le (adv2 c x v)
    have hl2 := (adv2_j0 j hv hn).2
    obtain ⟨su, hsu2⟩ : ∃ su, sureH (adv2 c x v) = su := ⟨_, rfl⟩
    have hw : IntKind.i64.wrap (su - 64) = su - 64 := by
      have h0 : -1 ≤ su := by
        rw [← hsu2]
        obtain ⟨j2, -⟩ := adv2_j0 j hv hn
        have := (adv1_same j v).2.2.1
        have e0 : sureHN (adv2 c x v) 0 = minI (confH (adv2 c x v)) (adv2 c x v).us.length := rfl
        have e1 : sureHN (adv2 c x v) 1 = if 0 ≤ (adv2 c x v).wr 0 then minI (sureHN (adv2 c x v) 0) ((adv2 c x v).wr 0) else sureHN (adv2 c x v) 0 := rfl
        have e2 : sureH (adv2 c x v) = if 0 ≤ (adv2 c x v).wr 1 then minI (sureHN (adv2 c x v) 1) ((adv2 c x v).wr 1) else sureHN (adv2 c x v) 1 := rfl
        have m0 := minI_le (confH (adv2 c x v)) (adv2 c x v).us.length
        have m1 := minI_le (sureHN (adv2 c x v) 0) ((adv2 c x v).wr 0)
        have m2 := minI_le (sureHN (adv2 c x v) 1) ((adv2 c x v).wr 1)
        have m3 := minI_le ((adv2 c x v).ks 0).length ((adv2 c x v).ks 1).length
        have ec : confH (adv2 c x v) = minI ((adv2 c x v).ks 0).length ((adv2 c x v).ks 1).length := rfl
        split at e1 <;> split at e2 <;> omega
      refine IntWalk.i64_in _ ?_
      omega
    clear h j hT hsu hl2
    go_enter Tryz.func15, Tryz.ntmps15
    go_wp2_with fail
    refine pM.out.mono ?_
    rintro e w1 ⟨rfl, n, rfl⟩
    go_wp2_with fail
    refine (pF.out n).mono ?_
    rintro e w1 ⟨rfl, ht⟩
    obtain ⟨pL, pA⟩ := HA.out n w1 ht
    rw [hsu2] at pA
    have PL := Lib.hid pL
    have PA := Lib.hid pA
    clear ht pL pA HA
    go_wp2_with fail
    refine PL.out.mono ?_
    rintro e w2 ⟨rfl, n2, rfl⟩
    go_wp2_with fail
    refine (PA.out n2).mono ?_
    rintro e w2 ⟨⟨z, rfl⟩, pS⟩
    have PS := Lib.hid pS
    clear pS PL PA
    go_wp2_with fail
    refine PS.out.mono ?_
    rintro e w3 ⟨rfl, pU⟩
    have PU := Lib.hid pU
    clear pU PS
    go_wp2_with fail
    refine PU.out.mono ?_
    rintro e w4 ⟨rfl, c4, c5, p', C', hM, hD, hFin⟩
    have HM := Lib.hid hM
    have HD := Lib.hid hD
    have HF := Lib.hid hFin
    clear hM hD hFin PU
    go_wp2_with fail
    clear c4 c5
    go_loopw [32] (fun iv wr => ∃ i : Nat, i ≤ 2 ∧ iv = .int .i64 (i : Int) ∧ Mid w wr c s (dropP p' (su - 64) i) C') (fun iv _ => 2 - (intOf iv).toNat)
    case atStart => exact ⟨0, by omega, rfl, HM.out⟩
    case round =>
      clear HM
      obtain ⟨i, hi, rfl, hR⟩ := hrel
      obtain rfl | rfl | rfl : i = 0 ∨ i = 1 ∨ i = 2 := by omega
      · rw [show ((0 : Nat) : Int) = 0 from rfl]
        have pd := Lib.hid (HD.out wr 0 hR (by omega))
        clear hR
        go_wp2_with fail
        refine pd.out.mono ?_
        rintro e w5 ⟨rfl, hM5⟩
        have HM5 := Lib.hid hM5
        clear hM5
        go_wp2_with fail
        go_roundw
        case rel => exact ⟨1, by omega, rfl, HM5.out⟩
        case measure => simp [intOf]
      · rw [show ((1 : Nat) : Int) = 1 from rfl]
        have pd := Lib.hid (HD.out wr 1 hR (by omega))
        clear hR
        go_wp2_with fail
        refine pd.out.mono ?_
        rintro e w5 ⟨rfl, hM5⟩
        have HM5 := Lib.hid hM5
        clear hM5
        go_wp2_with fail
        go_roundw
        case rel => exact ⟨2, by omega, rfl, HM5.out⟩
        case measure => simp [intOf]
      · rw [show ((2 : Nat) : Int) = 2 from rfl]
        have HR := Lib.hid (HF.out wr hR)
        clear hR
        go_wp2_with fail
        go_ret
        exact ⟨rfl, HR.out⟩
end Go.Proofs.YtckkpgopddnkiaaGreat.Rl
