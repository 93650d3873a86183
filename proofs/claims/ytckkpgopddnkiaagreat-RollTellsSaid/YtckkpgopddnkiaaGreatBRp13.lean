/-
  Texts joined: RlN, RlO, RlT, RlU, RlV. No condition.
-/
import Derived.Test.YtckkpgopddnkiaaGreatBRp12
namespace Go.Proofs.YtckkpgopddnkiaaGreat.Rl
open Go.RowKit Go.Sort Go.Proofs.YtckkpgopddnkiaaGreat.Gm Go.Proofs.YtckkpgopddnkiaaGreat.RingE Go.Proofs.YtckkpgopddnkiaaGreat.Inputq
set_option linter.all false
attribute [local go_sem] idx0 idx1

def cV (c : Cfg) : Array Value := #[.int .u32 (c.sd : Int), .int .i64 (c.lo : Int), .int .i64 c.de, .int .i64 c.ah]
def eB (c : Cfg) (v4 v5 v6 : Value) (C : Array Value) : Array Value :=
  ([Value.int .u32 (c.sd : Int), .int .i64 (c.lo : Int), .int .i64 c.de, .int .i64 c.ah, v4, v5, v6] ++ (C.toList ++ [Value.int .i64 0, .int .i64 0, .int .i64 0])).toArray
theorem eB_set4 {c : Cfg} {v4 v5 v6 : Value} {C : Array Value} (v : Value) : (eB c v4 v5 v6 C).setIfInBounds 4 v = eB c v v5 v6 C := by
  apply Array.ext'
  simp [eB]
theorem eB_set5 {c : Cfg} {v4 v5 v6 : Value} {C : Array Value} (v : Value) : (eB c v4 v5 v6 C).setIfInBounds 5 v = eB c v4 v v6 C := by
  apply Array.ext'
  simp [eB]
theorem eB_set6 {c : Cfg} {v4 v5 v6 : Value} {C : Array Value} (v : Value) : (eB c v4 v5 v6 C).setIfInBounds 6 v = eB c v4 v5 v C := by
  apply Array.ext'
  simp [eB]
set_option maxRecDepth 100000 in
theorem built_En (sd : Nat) (lo : Nat) (de ah : Int) (f : F) : Tryz.prog.built 78 [(0, .agg #[.int .u32 (sd : Int), .int .i64 (lo : Int), .int .i64 de, .int .i64 ah]), (3, .agg (stA f))] = some (eB ⟨sd, lo, de, ah⟩ (.pointer none) (.pointer none) (.pointer none) (stA f)) := by
  show _ = _
  kernel_rfl
def buildEn (P : Program) (u v : Value) (w : World) : Result Next := (Sem.run P (Instr.build 78 #[(0, u), (3, v)]) w).andThen fun u w' => .ok (.value u) w'
theorem exec_bdEn (ev : Operand → Value) (dst : Option Tmp) (x y : Operand) (ty : TypeId) (pos : String) (after : Array Edge) (guard : Option (Nat × Bool)) (w : World) :
    (execOp ev { dst := dst, op := Op.build 78 #[(0, x), (3, y)], type := ty, pos := pos, after := after, guard := guard }).run Tryz.prog w = buildEn Tryz.prog (ev x) (ev y) w := by
  unfold execOp buildEn
  simp only [Sem.run_bind, Sem.run_pure, List.map_toArray, List.map_cons, List.map_nil]
theorem buildEn_at {C E : Array Value} {f : F} {c : Cfg} (LC : Let C f) (hE : E = eB c (.pointer none) (.pointer none) (.pointer none) C) (w : World) : buildEn Tryz.prog (.agg #[.int .u32 (c.sd : Int), .int .i64 (c.lo : Int), .int .i64 c.de, .int .i64 c.ah]) (.agg C) w = .ok (.value (.agg E)) w := by
  unfold buildEn
  rw [hE, LC.eq, run_build w _ _ _ (built_En c.sd c.lo c.de c.ah f)]
  rfl

def newH (c : Cfg) : H := { ks := fun _ => List.replicate c.de.toNat 0, us := [], wr := fun _ => -1, low := 0, ro := 0, re := 0, wo := 0 }
theorem newH_J {c : Cfg} (sd : c.sd < 4294967296) (lo : c.lo < 2) (ah : 1 ≤ c.ah ∧ c.ah ≤ 16) (de : 0 ≤ c.de ∧ c.de ≤ 8) : J c (newH c) := by
  refine ⟨sd, lo, ah, de, by simp [newH], fun i hi v hv => ?_, fun i hi => by simp [newH], .inr rfl, fun i hi => .inl rfl, fun i hi => by simp [newH]; omega, by simp [newH]; omega, by simp [newH]; omega, fun i hi j hj => by simp [newH] at hj⟩
  rw [(List.mem_replicate.1 hv).2]
  omega
theorem newQ_H (c : Cfg) (de : 0 ≤ c.de) (i : Nat) : newQ c.de (List.replicate c.de.toNat 0) = qH c (newH c) i := by
  have h0 : (List.replicate c.de.toNat 0 : List Nat).getLastD 0 = 0 := by
    rw [List.getLastD_eq_getLast?]
    cases h : (List.replicate c.de.toNat 0 : List Nat).getLast? with
    | none => rfl
    | some v => exact (List.mem_replicate.1 (List.mem_of_getLast? h)).2
  unfold newQ qH
  simp only [newH, List.drop_zero, h0, col, List.map_nil, toI, List.map_replicate]
  rfl

/-- Behind i rounds of New's loop. -/
structure NewR (w wr : World) (c : Cfg) (g : Nat) (C : Array Value) (i : Nat) (ss : Nat → Inputq.S) : Prop where
  blk : Blk wr g 78 (eB c (if 0 < i then .pointer (some ⟨(ss 0).q, 0, none⟩) else .pointer none) (if 1 < i then .pointer (some ⟨(ss 1).q, 0, none⟩) else .pointer none) (.pointer none) C)
  cfg : Blk wr w.heap.size 24 (cV c)
  qa : ∀ j, j < i → QAt wr (ss j) (newQ c.de (List.replicate c.de.toNat 0)) ∧ ∀ k, fpQ (ss j) k → w.heap.size ≤ k
  ap : 1 < i → ∀ k, fpQ (ss 0) k → ¬ fpQ (ss 1) k
  lo : Below w.heap.size w wr
  g0 : w.heap.size < g
section
variable {w wr : World} {c : Cfg} {g : Nat} {C : Array Value} {i : Nat} {ss : Nat → Inputq.S}
theorem NewR.round (h : NewR w wr c g C i ss) (hi : i < 2) {q : Nat} {w' : World} (hm : Made wr q (newQ c.de (List.replicate c.de.toNat 0)) w') :
    Blk w' g 78 (eB c (if 0 < i then .pointer (some ⟨(ss 0).q, 0, none⟩) else .pointer none) (if 1 < i then .pointer (some ⟨(ss 1).q, 0, none⟩) else .pointer none) (.pointer none) C) ∧
      ∃ ss', NewR w (w'.setCell ⟨g, 4 + i, none⟩ (.pointer (some ⟨q, 0, none⟩))) c g C (i + 1) ss' := by
  obtain ⟨s1, rfl, hq, hb, hF⟩ := hm
  have hsz := h.lo.size
  have hbl := h.blk.below hb h.blk.lt
  have hcf := h.cfg.below hb h.cfg.lt
  have hne : ¬ fpQ s1 g := fun hk => by have := hF g hk; have := h.blk.lt; omega
  have hT := touch_g w' g (4 + i) (.pointer (some ⟨s1.q, 0, none⟩))
  refine ⟨hbl, upd ss i s1, ?_, ?_, fun j hj => ?_, fun h1 k hk => ?_, ?_, h.g0⟩
  · have hset := hbl.set_ (4 + i) (.pointer (some ⟨s1.q, 0, none⟩))
    obtain rfl | rfl : i = 0 ∨ i = 1 := by omega
    · rw [eB_set4] at hset
      exact hset
    · rw [eB_set5] at hset
      exact hset
  · exact hcf.touch hT (fun e => by have := h.g0; omega)
  · by_cases e : j = i
    · subst e
      rw [upd_at]
      exact ⟨hq.touch hT (fun k hk e => hne (e ▸ hk)), fun k hk => Nat.le_trans hsz (hF k hk)⟩
    · rw [upd_ne _ _ e]
      obtain ⟨a, b⟩ := h.qa j (by omega)
      have a2 : QAt w' (ss j) (newQ c.de (List.replicate c.de.toNat 0)) := a.touch (T := noB) ⟨hb.os, hb.tape, hb.output, hb.size, fun k hk _ => hb.block k hk⟩ (fun _ _ h => h)
      refine ⟨a2.touch hT (fun k hk e2 => ?_), b⟩
      obtain ⟨cs, t, e3, ht⟩ := q_kind a2 hk
      have e4 := hbl
      unfold Blk at e4
      rw [e2, e4] at e3
      simp only [Option.some.injEq, Obj.cells.injEq] at e3
      obtain ⟨-, rfl, -⟩ := e3
      revert ht
      decide
  · obtain rfl : i = 1 := by omega
    rw [upd_ne _ _ (by omega)] at hk
    rw [upd_at]
    intro hk2
    have := hF k hk2
    have := (h.qa 0 (by omega)).1.lt k hk
    omega
  · exact (h.lo.trans (hb.mono hsz)).setCell (by have := h.g0; show w.heap.size ≤ g; omega) _
/-- Behind the loop: the states are made and the first one saved. -/
theorem NewR.done {f : F} (h : NewR w wr c g C 2 ss) (LC : Let C f) (hf : f = newF (c.sd : Int)) (sd : c.sd < 4294967296) (lo : c.lo < 2) (ah : 1 ≤ c.ah ∧ c.ah ≤ 16) (de : 0 ≤ c.de ∧ c.de ≤ 8) {sb r : Nat} {w' : World} (hS : Sav.SA w' sb r 64 0 (.slice none 0 0) []) (hb : Below wr.heap.size wr w') (hsb : wr.heap.size ≤ sb ∧ wr.heap.size ≤ r) :
    Blk w' g 78 (eB c (.pointer (some ⟨(ss 0).q, 0, none⟩)) (.pointer (some ⟨(ss 1).q, 0, none⟩)) (.pointer none) C) ∧
      ∃ W, W = w'.setCell ⟨g, 6, none⟩ (.pointer (some ⟨sb, 0, none⟩)) ∧ W.cell? ⟨g, 6, none⟩ = some (.pointer (some ⟨sb, 0, none⟩)) ∧ rowIn W g 7 66 = some C.toList ∧
        ∀ n, Calls Tryz.prog 33 #[.pointer (some ⟨sb, 0, none⟩), .agg C] (W.drewN n) fun e w2 => (∃ z, e = .returned (.int .i64 z)) ∧ ∃ s, s.g = g ∧ HAt w2 c s (newH c) ∧ Below w.heap.size w w2 ∧ ∀ k, fpE s k → w.heap.size ≤ k := by
  have hbl := h.blk.below hb h.blk.lt
  have hsz := h.lo.size
  refine ⟨hbl, _, rfl, ?_, ?_, fun n => ?_⟩
  all_goals
    have hset := hbl.set_ 6 (.pointer (some ⟨sb, 0, none⟩))
    rw [eB_set6] at hset
    have hT := touch_g w' g 6 (.pointer (some ⟨sb, 0, none⟩))
    have hgs : ¬ g = sb ∧ ¬ RingE.fp r (.slice none 0 0) g := by
      have := h.blk.lt
      refine ⟨by omega, fun hk => ?_⟩
      rcases hk with hk | hk
      · omega
      · simp [Value.ownBlock] at hk
    let s : SE := ⟨g, sb, r, .slice none 0 0, ss⟩
    let p : P := ⟨fun i => newQ c.de (List.replicate c.de.toNat 0), 0, [], f, 0, 0, 0⟩
    have hE : EAt (w'.setCell ⟨g, 6, none⟩ (.pointer (some ⟨sb, 0, none⟩))) c s p C := by
      refine ⟨LC, hset, fun i hi => ?_, ?_, h.ap (by omega)⟩
      · obtain ⟨a, b⟩ := h.qa i hi
        have a2 : QAt w' (ss i) (newQ c.de (List.replicate c.de.toNat 0)) := a.touch (T := noB) ⟨hb.os, hb.tape, hb.output, hb.size, fun k hk _ => hb.block k hk⟩ (fun _ _ h => h)
        refine a2.touch hT (fun k hk e2 => ?_)
        obtain ⟨cs, t, e3, ht⟩ := q_kind a2 hk
        have e4 := hbl
        unfold Blk at e4
        rw [e2, e4] at e3
        simp only [Option.some.injEq, Obj.cells.injEq] at e3
        obtain ⟨-, rfl, -⟩ := e3
        revert ht
        decide
      · exact ⟨Blk.touch hS.1 hT (fun e => hgs.1 e.symm), hS.2.1.touch hT (fun e => hgs.2 (.inl e.symm)), hS.2.2.touch hT (fun k hk e => hgs.2 (.inr (e ▸ hk)))⟩
  · exact hE.c6
  · exact rowIn_of hE.mid (by have := LC.size; simpa using this)
  · have hE3 := hE.drewN n
    have hI := Inv.new (c.sd : Int) (by omega) (by omega)
    have hwf : Wf f := by rw [hf]; exact hI.wf (by omega) (by omega) (by omega)
    have hf0 : f 0 = 0 := by rw [hf]; exact hI.frame
    have hs := Sav.save_any _ sb r 64 0 (.slice none 0 0) [] C f LC hwf hE3.sa (by omega) (by simp) (by simp) (by omega)
    have hsp : Sav.saveP 0 [] (f 0) := by rw [hf0]; exact ⟨rfl, rfl, by omega, by omega⟩
    have eb : Sav.baseF 0 [] (f 0) = 0 := by unfold Sav.baseF; rw [if_pos hsp, hf0]
    have es : Sav.saveE 0 [] (f 0) = 0 := by unfold Sav.saveE; rw [eb, hf0]; simp
    have eF : Sav.saveF 64 0 [] f = 0 := by unfold Sav.saveF; rw [if_pos es, eb, hf0]; simp [RingE.putF, RingE.cutL]
    have eL : Sav.saveL 64 0 [] f = [ent c.sd [] 0] := by
      unfold Sav.saveL
      rw [if_pos es, eb, hf0]
      have : (f, sumL (stB f)) = ent c.sd [] 0 := by rw [hf]; rfl
      rw [this]
      simp [RingE.putL, RingE.cutL]
    rw [eF, eL] at hs
    refine hs.mono fun e w2 ⟨h1, ht⟩ => ⟨⟨_, h1⟩, ?_⟩
    obtain ⟨s2, f1, f2, f3, hE4, T4, F4⟩ := hE3.saved ht
    have hfp : ∀ k, fpE s k → w.heap.size ≤ k := by
      rintro k (a | (a | a) | a | a)
      · have := h.g0; have e : k = g := a; omega
      · exact (h.qa 0 (by omega)).2 k a
      · exact (h.qa 1 (by omega)).2 k a
      · have e : k = sb := a; omega
      · rcases a with a | a
        · have e : k = r := a; omega
        · simp [Value.ownBlock] at a
    have hB0 : Below w.heap.size w ((w'.setCell ⟨g, 6, none⟩ (.pointer (some ⟨sb, 0, none⟩))).drewN n) := below_drewN ((h.lo.trans (hb.mono hsz)).setCell (by have := h.g0; show w.heap.size ≤ g; omega) _) n
    refine ⟨s2, f1, ⟨_, C, hE4, ⟨fun i hi => newQ_H c de.1 i, rfl, ⟨rfl, Nat.le_refl _, fun j h1 h2 => ?_⟩, hf, rfl, rfl, rfl⟩⟩, hB0.trans (T4.below hB0.size hfp), fun k hk => ?_⟩
    · have h2' : j ≤ 0 := h2
      obtain rfl : j = 0 := by omega
      rfl
    · rcases F4 k hk with a | a
      · exact hfp k a
      · exact Nat.le_trans hB0.size a
end

section
attribute [local go_sem ↓] exec33 exec_bdEn
attribute [local go_sem] loadE33 loadI_some rowIn_drew
set_option maxRecDepth 100000 in
set_option maxHeartbeats 8000000 in
theorem new_any (w : World) (c : Cfg) (sd : c.sd < 4294967296) (lo : c.lo < 2) (ah : 1 ≤ c.ah ∧ c.ah ≤ 16) (de : 0 ≤ c.de ∧ c.de ≤ 8) :
    Calls Tryz.prog 14 #[.agg (cV c)] w fun e w' => ∃ s, e = .returned (.tuple #[.pointer (some ⟨s.g, 0, none⟩), .int .i64 0]) ∧ HAt w' c s (newH c) ∧ Below w.heap.size w w' ∧ ∀ k, fpE s k → w.heap.size ≤ k := by
  obtain ⟨C, LC⟩ := let_of (newF (c.sd : Int))
  obtain ⟨E, hE⟩ : ∃ E, E = eB c (.pointer none) (.pointer none) (.pointer none) C := ⟨_, rfl⟩
  obtain ⟨W1, hW1⟩ : ∃ W1, W1 = w.alloc (.cells (cV c) 24) := ⟨_, rfl⟩
  have hX : Blk W1 w.heap.size 24 (cV c) := by rw [hW1]; exact Blk.new _ _ _
  have hB : Below w.heap.size w W1 := by rw [hW1]; exact (Below.refl _ w).alloc (Nat.le_refl _) _
  have hz : W1.heap.size = w.heap.size + 1 := by rw [hW1]; simp
  have pN' : ∀ W, Calls Tryz.prog 30 #[.int .u32 (c.sd : Int)] W fun e w' => e = .returned (.agg C) ∧ Below W.heap.size W w' := fun W => by
    have := Gm.new_any W (c.sd : Int) (by omega) (by omega)
    unfold stV at this
    rw [← LC.eq] at this
    exact this
  have pN := Lib.hid pN'
  have hbd := buildEn_at LC hE
  have pQ := Lib.hid (show ∀ W, Calls Tryz.prog 31 #[.int .i64 c.de] W fun e w' => ∃ q, e = .returned (.tuple #[.pointer (some ⟨q, 0, none⟩), .int .i64 0]) ∧ Made W q (newQ c.de (List.replicate c.de.toNat 0)) w' from fun W => by
    have := new_ok c.de.toNat W (by omega)
    rw [show ((c.de.toNat : Nat) : Int) = c.de by omega] at this
    exact this)
  have pS := Lib.hid (fun W => Sav.new_ok 64 W (by omega) (by omega))
  have HR := Lib.hid (fun wr g i ss (h : NewR w wr c g C i ss) hi q w' hm => h.round (q := q) (w' := w') hi hm)
  have HD := Lib.hid (fun wr g ss (h : NewR w wr c g C 2 ss) sb r w' hS hb hsb => h.done (sb := sb) (r := r) (w' := w') LC rfl sd lo ah de hS hb hsb)
  have k0 := hX.cell 0
  have k1 := hX.cell 1
  have k3 := hX.cell 3
  have k2 := hX.cell 2
  have l0 : ¬ (c.lo : Int) < 0 := by omega
  have l1 : ¬ (1 : Int) < (c.lo : Int) := by omega
  have a0 : ¬ c.ah < 1 := by omega
  have a1 : ¬ 16 < c.ah := by omega
  have HE := Lib.hid hE
  have HST := Lib.hid (show ∀ W g, Below W1.heap.size W1 W → W.heap.size = g → NewR w (W.alloc (.cells E 78)) c g C 0 (fun _ => ⟨0, 0, 0, .slice none 0 0, .slice none 0 0⟩) from fun W g hb hg => by
    refine ⟨?_, ?_, fun j hj => by omega, fun h => by omega, (hB.trans (hb.mono hB.size)).alloc (Nat.le_trans hB.size hb.size) _, by have := hb.size; omega⟩
    · show Blk _ _ _ (eB c (.pointer none) (.pointer none) (.pointer none) C)
      rw [← hg, ← HE.out]; exact Blk.new _ _ _
    · exact (hX.below hb hX.lt).alloc _)
  clear hE LC pN'
  obtain ⟨sdv, lov, dev, ahv⟩ := c
  simp only [cV] at *
  simp only [List.getElem?_toArray, List.getElem?_cons_zero, List.getElem?_cons_succ] at k0 k1 k2 k3
  go_enter Tryz.func14, Tryz.ntmps14
  go_upto_region 1 with fail
  rw [← hW1]
  clear hW1
  go_upto_region 3 with fail
  go_cut [4] (fun v wx => ∃ g, v = .pointer (some ⟨g, 0, none⟩) ∧ ∃ ss, NewR w wx ⟨sdv, lov, dev, ahv⟩ g C 0 ss)
  case first =>
    go_region_law ((go_simp; go_at_call 30; refine (pN.out _).mono ?_; rintro e w3 ⟨rfl, h3⟩; have h4 : Below W1.heap.size W1 w3 := ⟨h3.os, h3.tape, h3.output, h3.size, h3.block⟩; have j0 := (hX.below h4 hX.lt).cell 0; have j1 := (hX.below h4 hX.lt).cell 1; have j2 := (hX.below h4 hX.lt).cell 2; have j3 := (hX.below h4 hX.lt).cell 3; simp only [List.getElem?_toArray, List.getElem?_cons_zero, List.getElem?_cons_succ] at j0 j1 j2 j3))
    all_goals
      go_wp2_with fail
      go_meet
      exact ⟨_, rfl, _, HST.out _ _ h4 rfl⟩
  case rest =>
    obtain ⟨g, rfl, ss, hR0⟩ := hcut
    have HR0 := Lib.hid hR0
    clear hR0 HST hX k0 k1 k2 k3 hbd pN
    go_wp2_with fail
    go_loopw [32] (fun iv wr => ∃ i : Nat, i ≤ 2 ∧ iv = .int .i64 (i : Int) ∧ ∃ ss, NewR w wr ⟨sdv, lov, dev, ahv⟩ g C i ss) (fun iv _ => 2 - (intOf iv).toNat)
    case atStart => exact ⟨0, by omega, rfl, _, HR0.out⟩
    case round =>
      clear HR0
      obtain ⟨i, hi, rfl, ss, hR⟩ := hrel
      obtain rfl | rfl | rfl : i = 0 ∨ i = 1 ∨ i = 2 := by omega
      · rw [show ((0 : Nat) : Int) = 0 from rfl]
        have HRR := Lib.hid hR
        have k2 : wr.cell? ⟨w.heap.size, 2, none⟩ = some (.int .i64 dev) := hR.cfg.cell 2
        clear hR
        go_wp2_with fail
        refine (pQ.out _).mono ?_
        rintro e w5 ⟨q, rfl, hm⟩
        obtain ⟨hbl, ss', h2⟩ := HR.out _ _ _ _ HRR.out (by omega) q w5 hm
        have f4 := hbl.frozen 4
        have c4 := hbl.cell 4
        simp only [eB, List.cons_append, List.nil_append, List.getElem?_toArray, List.getElem?_cons_zero, List.getElem?_cons_succ] at c4
        have H2 := Lib.hid h2
        clear hm hbl h2 HRR
        go_wp2_with fail
        go_roundw
        case rel => exact ⟨1, by omega, rfl, ss', H2.out⟩
        case measure => simp [intOf]
      · rw [show ((1 : Nat) : Int) = 1 from rfl]
        have HRR := Lib.hid hR
        have k2 : wr.cell? ⟨w.heap.size, 2, none⟩ = some (.int .i64 dev) := hR.cfg.cell 2
        clear hR
        go_wp2_with fail
        refine (pQ.out _).mono ?_
        rintro e w5 ⟨q, rfl, hm⟩
        obtain ⟨hbl, ss', h2⟩ := HR.out _ _ _ _ HRR.out (by omega) q w5 hm
        have f4 := hbl.frozen 5
        have c4 := hbl.cell 5
        simp only [eB, List.cons_append, List.nil_append, List.getElem?_toArray, List.getElem?_cons_zero, List.getElem?_cons_succ] at c4
        have H2 := Lib.hid h2
        clear hm hbl h2 HRR
        go_wp2_with fail
        go_roundw
        case rel => exact ⟨2, by omega, rfl, ss', H2.out⟩
        case measure => simp [intOf]
      · rw [show ((2 : Nat) : Int) = 2 from rfl]
        have HRR := Lib.hid hR
        clear hR
        go_wp2_with fail
        refine (pS.out _).mono ?_
        rintro e w5 ⟨rfl, hS, hb5⟩
        obtain ⟨hbl, W6, hW6, k6, krow, kS⟩ := HD.out _ _ _ HRR.out _ _ w5 hS hb5 ⟨by omega, by omega⟩
        have f6 := hbl.frozen 6
        have c6 := hbl.cell 6
        simp only [eB, List.cons_append, List.nil_append, List.getElem?_toArray, List.getElem?_cons_zero, List.getElem?_cons_succ] at c6
        have KS := Lib.hid kS
        clear kS hbl hS hb5 HRR HD HR pS pQ
        go_upto_region 13 with fail
        rw [← hW6]
        clear hW6 f6 c6
        have krow' : rowIn W6.drew g 7 66 = some C.toList := krow
        have k6' : W6.drew.cell? ⟨g, 6, none⟩ = some (.pointer (some ⟨_, 0, none⟩)) := k6
        go_region_law ((go_simp; go_at_call 33; refine (KS.out 1).mono ?_; rintro e w3 ⟨⟨z, rfl⟩, s, h3, h4, h5, h6⟩))
        all_goals
          go_wp2_with fail
          go_ret2
          exact ⟨s, by rw [h3]; rfl, h4, h5, h6⟩
end
end Go.Proofs.YtckkpgopddnkiaaGreat.Rl
namespace Go.Proofs.YtckkpgopddnkiaaGreat.Rl
open Go.RowKit Go.Sort Go.Proofs.YtckkpgopddnkiaaGreat.Gm Go.Proofs.YtckkpgopddnkiaaGreat.RingE Go.Proofs.YtckkpgopddnkiaaGreat.Inputq
set_option linter.all false

theorem J.addR {c : Cfg} {x : H} (j : J c x) {v : Nat} (hv : v < 65536) : J c (addHR c x v) := by
  unfold addHR
  split
  · exact j
  · rename_i hT
    unfold addHT at hT
    have hlo := j.lo
    have hi : 1 - c.lo < 2 := by omega
    obtain ⟨i, hie⟩ : ∃ i, 1 - c.lo = i := ⟨_, rfl⟩
    have hli : ¬ c.lo = i := by omega
    rw [hie] at hT hi ⊢
    have hwb := j.wb i hi
    have hnc := j.nc i hi
    have hah := j.ah
    have hrk := j.rk
    rw [hie] at hrk
    have hks : ∀ k, k < 2 → (x.ks k).length ≤ ((addH x i v).ks k).length := fun k hk => by
      show _ ≤ (upd x.ks i (x.ks i ++ [v]) k).length
      by_cases e : k = i
      · subst e; rw [upd_at, List.length_append]; omega
      · rw [upd_ne _ _ e]
        exact Nat.le_refl _
    have hwr : wrongA x i v = x.wr i ∨ (wrongA x i v = (x.ks i).length ∧ (x.ks i).length < x.us.length ∧ x.wr i = -1) := by
      unfold wrongA
      split
      · rename_i h
        exact .inr ⟨rfl, h.1, by omega⟩
      · exact .inl rfl
    refine ⟨j.sd, j.lo, j.ah, j.de, j.un, fun k hk u hu => ?_, fun k hk => Nat.le_trans (j.ll k hk) (hks k hk), j.lw, fun k hk => ?_, fun k hk => ?_, ?_, ?_, fun k hk m hm hm2 hmw => ?_⟩
    · have hu' : u ∈ upd x.ks i (x.ks i ++ [v]) k := hu
      by_cases e : k = i
      · subst e
        rw [upd_at] at hu'
        rcases List.mem_append.1 hu' with h | h
        · exact j.kv _ hk u h
        · rw [List.mem_singleton.1 h]; exact hv
      · rw [upd_ne _ _ e] at hu'; exact j.kv k hk u hu'
    · show upd x.wr i (wrongA x i v) k = -1 ∨ (0 ≤ upd x.wr i (wrongA x i v) k ∧ upd x.wr i (wrongA x i v) k < x.us.length ∧ (x.us.length : Int) ≤ upd x.wr i (wrongA x i v) k + 16 ∧ upd x.wr i (wrongA x i v) k < ((upd x.ks i (x.ks i ++ [v]) k).length : Nat))
      by_cases e : k = i
      · subst e
        rw [upd_at, upd_at, List.length_append, List.length_singleton]
        rcases hwr with h | ⟨h, h1, h2⟩ <;> rw [h] <;> omega
      · rw [upd_ne _ _ e, upd_ne _ _ e]; exact j.wb k hk
    · have := j.nc k hk
      have := hks k hk
      show (x.us.length : Int) ≤ (((addH x i v).ks k).length : Nat) + c.ah
      omega
    · show ((upd x.ks i (x.ks i ++ [v]) c.lo).length : Int) = _
      rw [upd_ne _ _ hli]; exact j.lk
    · rw [hie]
      show (upd x.ks i (x.ks i ++ [v]) i).length ≤ x.us.length + 128
      rw [upd_at, List.length_append, List.length_singleton]
      omega
    · have hm2' : m < (upd x.ks i (x.ks i ++ [v]) k).length := hm2
      show (col k x.us)[m]? = (upd x.ks i (x.ks i ++ [v]) k)[m]?
      have hmw' : upd x.wr i (wrongA x i v) k = -1 ∨ (m : Int) < upd x.wr i (wrongA x i v) k := hmw
      by_cases e : k = i
      · subst e
        rw [upd_at] at hm2' hmw' ⊢
        rw [List.length_append, List.length_singleton] at hm2'
        by_cases hml : m < (x.ks k).length
        · rw [List.getElem?_append_left hml]
          refine j.ag k hk m hm hml ?_
          rcases hwr with h | ⟨h, h1, h2⟩
          · rw [← h]; exact hmw'
          · exact .inl h2
        · obtain rfl : m = (x.ks k).length := by omega
          rw [List.getElem?_append_right (Nat.le_refl _), Nat.sub_self]
          by_cases hc : (col k x.us).getD (x.ks k).length 0 ≠ v ∧ x.wr k < 0
          · have : wrongA x k v = (x.ks k).length := by unfold wrongA; rw [if_pos ⟨hm, hc⟩]
            rw [this] at hmw'
            omega
          · have : wrongA x k v = x.wr k := by unfold wrongA; rw [if_neg (fun h => hc h.2)]
            rw [this] at hmw'
            have hd : (col k x.us).getD (x.ks k).length 0 = v := by
              by_cases h : (col k x.us).getD (x.ks k).length 0 = v
              · exact h
              · exfalso
                have : ¬ x.wr k < 0 := fun h2 => hc ⟨h, h2⟩
                omega
            rw [List.getD_eq_getElem?_getD, List.getElem?_eq_getElem (by rw [col_len]; exact hm)] at hd
            rw [List.getElem?_eq_getElem (by rw [col_len]; exact hm)]
            simp at hd ⊢
            exact hd
      · rw [upd_ne _ _ e] at hm2' hmw' ⊢
        exact j.ag k hk m hm hm2' hmw'

def atHE (x : H) (n : Int) : Int := if sureH x < n then 250 else if n < ((x.us.length - 63 : Nat) : Int) then 90 else 0
def atHF (c : Cfg) (x : H) (n : Int) : F := if atHE x n = 0 then pl c.sd x.us n.toNat else zF
def atHS (c : Cfg) (x : H) (n : Int) : Int := if atHE x n = 0 then sumL (stB (pl c.sd x.us n.toNat)) else 0
theorem sure_m1 {c : Cfg} {x : H} (j : J c x) : 0 ≤ sureH x := by
  have e0 : sureHN x 0 = minI (confH x) x.us.length := rfl
  have e1 : sureHN x 1 = if 0 ≤ x.wr 0 then minI (sureHN x 0) (x.wr 0) else sureHN x 0 := rfl
  have e2 : sureH x = if 0 ≤ x.wr 1 then minI (sureHN x 1) (x.wr 1) else sureHN x 1 := rfl
  have m0 := minI_le (confH x) x.us.length
  have m1 := minI_le (sureHN x 0) (x.wr 0)
  have m2 := minI_le (sureHN x 1) (x.wr 1)
  have m3 := minI_le (x.ks 0).length (x.ks 1).length
  have ec : confH x = minI (x.ks 0).length (x.ks 1).length := rfl
  split at e1 <;> split at e2 <;> omega
/-- What the saved states answer for a frame that is sure. -/
theorem atX_of {c : Cfg} {x : H} {p : P} (hs : Sim c p x x.us.length x.us.length (x.us.length - 63)) (j : J c x) {n : Int} (hn : n ≤ sureH x) :
    RingE.atE p.b p.l.length n = atHE x n ∧ (atX p.b p.l n).1 = atHF c x n ∧ (atX p.b p.l n).2 = atHS c x n := by
  have hl := hs.l.len
  have hsu := (sureH_le x).1
  have hle : ¬ sureH x < n := by omega
  rw [hs.fb]
  by_cases h : n < ((x.us.length - 63 : Nat) : Int)
  · have e : atHE x n = 90 := by unfold atHE; rw [if_neg hle, if_pos h]
    refine ⟨?_, ?_, ?_⟩
    · unfold RingE.atE; rw [if_pos h, e]
    · unfold atX atHF; rw [if_pos h, if_neg (by rw [e]; omega)]; rfl
    · unfold atX atHS; rw [if_pos h, if_neg (by rw [e]; omega)]; rfl
  · have e : atHE x n = 0 := by unfold atHE; rw [if_neg hle, if_neg h]
    have hg := hs.l.get n.toNat (by omega) (by omega)
    have hx : atX ((x.us.length - 63 : Nat) : Int) p.l n = ent c.sd x.us n.toNat := by
      unfold atX
      rw [if_neg h, List.getD_eq_getElem?_getD, show (n - ((x.us.length - 63 : Nat) : Int)).toNat = n.toNat - (x.us.length - 63) by omega, hg]
      rfl
    refine ⟨?_, ?_, ?_⟩
    · unfold RingE.atE; rw [if_neg h, if_neg (by omega), e]
    · rw [hx]; unfold atHF ent; rw [if_pos e]
    · rw [hx]; unfold atHS ent; rw [if_pos e]

set_option maxRecDepth 100000 in
set_option maxHeartbeats 4000000 in
theorem sum_h (w : World) (c : Cfg) (s : SE) (x : H) (n : Int) (h : HAt w c s x) (j : J c x) (hn : n ≤ 9223372036854775807) :
    Calls Tryz.prog 8 #[.pointer (some ⟨s.g, 0, none⟩), .int .i64 n] w fun e w' => e = .returned (.tuple #[.int .u32 (atHS c x n), .int .i64 (atHE x n)]) ∧ Below w.heap.size w w' := by
  have pS := Lib.hid (sure_h h j.j0)
  by_cases hb : sureH x < n
  · have E := Lib.hid (show atHE x n = 250 by unfold atHE; rw [if_pos hb])
    have E2 := Lib.hid (show atHS c x n = 0 by unfold atHS; rw [E.out, if_neg (by omega)])
    generalize sureH x = su at *
    clear h j
    go_enter Tryz.func8, Tryz.ntmps8
    go_wp2_with fail
    refine pS.out.mono ?_
    rintro e w1 ⟨rfl, n1, rfl⟩
    go_wp2_with fail
    go_ret2
    exact ⟨by rw [E.out, E2.out]; rfl, below_drewN (Below.refl _ w) _⟩
  · obtain ⟨p, C, hE, hs⟩ := h
    obtain ⟨e1, e2, e3⟩ := atX_of (n := n) hs j (by omega)
    have pA := Lib.hid (show ∀ n1, Calls Tryz.prog 26 #[.pointer (some ⟨s.sb, 0, none⟩), .int .i64 n] (w.drewN n1) fun e w' => e = .returned (.tuple #[.int .u32 (atHS c x n), .int .i64 (atHE x n)]) ∧ Below w.heap.size w w' from fun n1 => by
      have := Sav.sum_any (w.drewN n1) s.sb s.r 64 p.b n s.sv p.l (hE.drewN n1).sa (by rw [hs.fb]; omega) hn
      rw [e1, e3] at this
      exact this.mono fun e w' ⟨h1, h2⟩ => ⟨h1, ⟨h2.os, h2.tape, h2.output, h2.size, h2.block⟩⟩)
    have c6 := hE.c6
    generalize sureH x = su at *
    clear hE hs e1 e2 e3 j
    go_enter Tryz.func8, Tryz.ntmps8
    go_wp2_with fail
    refine pS.out.mono ?_
    rintro e w1 ⟨rfl, n1, rfl⟩
    go_wp2_with fail
    refine (pA.out _).mono ?_
    rintro e w2 ⟨rfl, hb2⟩
    go_wp2_with fail
    go_ret2
    exact ⟨rfl, hb2⟩
end Go.Proofs.YtckkpgopddnkiaaGreat.Rl
namespace Go.Proofs.YtckkpgopddnkiaaGreat.Rl
open Go.RowKit Go.Sort Go.Proofs.YtckkpgopddnkiaaGreat.Gm Go.Proofs.YtckkpgopddnkiaaGreat.RingE Go.Proofs.YtckkpgopddnkiaaGreat.Inputq
set_option linter.all false
attribute [local go_sem] idx0 idx1

def buildZ (P : Program) (w : World) : Result Next := (Sem.run P (Instr.build 47 #[]) w).andThen fun u w' => .ok (.value u) w'
theorem exec_bdZ (ev : Operand → Value) (dst : Option Tmp) (ty : TypeId) (pos : String) (after : Array Edge) (guard : Option (Nat × Bool)) (w : World) :
    (execOp ev { dst := dst, op := Op.build 47 #[], type := ty, pos := pos, after := after, guard := guard }).run Tryz.prog w = buildZ Tryz.prog w := by
  unfold execOp buildZ
  simp only [Sem.run_bind, Sem.run_pure, List.map_toArray, List.map_nil]
theorem built_Z : Tryz.prog.built 47 [] = some Tryz.zeroCells47 := by kernel_rfl
theorem buildZ_at {Z : Array Value} (hZ : Tryz.zeroCells47 = Z) (w : World) : buildZ Tryz.prog w = .ok (.value (.agg Z)) w := by
  unfold buildZ
  rw [← hZ, run_build w _ _ _ built_Z]
  rfl

section
attribute [local go_sem ↓] exec_bdZ
set_option maxRecDepth 100000 in
set_option maxHeartbeats 4000000 in
theorem at_h (w : World) (c : Cfg) (s : SE) (x : H) (n : Int) (h : HAt w c s x) (j : J c x) (hn : n ≤ 9223372036854775807) :
    Calls Tryz.prog 7 #[.pointer (some ⟨s.g, 0, none⟩), .int .i64 n] w fun e w' => ∃ C', Let C' (atHF c x n) ∧ e = .returned (.tuple #[.agg C', .int .i64 (atHE x n)]) ∧ Below w.heap.size w w' := by
  obtain ⟨Z, LZ⟩ := let_of zF
  have hZ : Tryz.zeroCells47 = Z := by rw [LZ.eq, ← stA_zero]
  have hbz := buildZ_at hZ
  obtain ⟨W1, hW1⟩ : ∃ W1, W1 = w.alloc (.cells Z 47) := ⟨_, rfl⟩
  have hR : Blk W1 w.heap.size 47 Z := by rw [hW1]; exact Blk.new _ _ _
  have hB : Below w.heap.size w W1 := by rw [hW1]; exact (Below.refl _ w).alloc (Nat.le_refl _) _
  have h1 := h.below hB
  have pS := Lib.hid (sure_h h1 j.j0)
  have hzs := LZ.size
  have hzi := LZ.info
  have hzo := LZ.one
  have HB := Lib.hid hB
  by_cases hb : sureH x < n
  · have E := Lib.hid (show atHE x n = 250 by unfold atHE; rw [if_pos hb])
    have E2 := Lib.hid (show atHF c x n = zF by unfold atHF; rw [E.out, if_neg (by omega)])
    have HL := Lib.hid LZ
    generalize sureH x = su at *
    clear h h1 j hB LZ
    go_enter Tryz.func7, Tryz.ntmps7
    go_upto_region 1 with fail
    (try rw [hZ])
    rw [← hW1]
    clear hW1 hZ
    go_wp2_with fail
    refine pS.out.mono ?_
    rintro e w1 ⟨rfl, n1, rfl⟩
    have hR1 := hR.drewN n1
    go_wp2_with (first | (refine wpList_store_blk (by rfl) 47 _ _ (by rfl) w.heap.size Z (by rfl) (by rfl) _ Z hR1 hzi rfl hzo ?_; intro W6 hd6 ht6) | fail)
    refine bodyPost_ret (v := .tuple #[.agg Z, .int .i64 250]) (Sav.pair_resultsS Tryz.results7 _ _ w.heap.size _ Z _ hd6 hzi (by rfl) (by rfl)) rfl ⟨Z, by rw [E2.out]; exact HL.out, by rw [E.out], ?_⟩
    have h2 := below_drewN HB.out n1
    exact h2.trans (ht6.below h2.size (fun k hk => by omega))
  · obtain ⟨p, C, hE, hs⟩ := h1
    obtain ⟨e1, e2, e3⟩ := atX_of (n := n) hs j (by omega)
    obtain ⟨D, LD⟩ := let_of (atHF c x n)
    have pA := Lib.hid (show ∀ n1, Calls Tryz.prog 25 #[.pointer (some ⟨s.sb, 0, none⟩), .int .i64 n] (W1.drewN n1) fun e w' => e = .returned (.tuple #[.agg D, .int .i64 (atHE x n)]) ∧ Below W1.heap.size W1 w' from fun n1 => by
      have := Sav.sat_any (W1.drewN n1) s.sb s.r 64 p.b n s.sv p.l (hE.drewN n1).sa (by rw [hs.fb]; omega) hn
      rw [e1, e2] at this
      exact this.mono fun e w' ⟨C', LC', h1, h2⟩ => ⟨by rw [h1, LC'.eq, ← LD.eq], ⟨h2.os, h2.tape, h2.output, h2.size, h2.block⟩⟩)
    have c6 := hE.c6
    have hds := LD.size
    have hdi := LD.info
    have hdo := LD.one
    have hzd : Z.size = D.size := by rw [hzs, hds]
    have HD := Lib.hid LD
    generalize sureH x = su at *
    clear hE hs e1 e2 e3 j h LZ LD hB
    go_enter Tryz.func7, Tryz.ntmps7
    go_upto_region 1 with fail
    (try rw [hZ])
    rw [← hW1]
    clear hW1 hZ
    go_wp2_with fail
    refine pS.out.mono ?_
    rintro e w1 ⟨rfl, n1, rfl⟩
    go_wp2_with fail
    refine (pA.out _).mono ?_
    rintro e w2 ⟨rfl, hb2⟩
    have hR2 := hR.below hb2 hR.lt
    go_wp2_with (first | (refine wpList_store_blk (by rfl) 47 _ _ (by rfl) w.heap.size D (by rfl) (by rfl) _ Z hR2 hdi hzd hdo ?_; intro W6 hd6 ht6) | fail)
    refine bodyPost_ret (v := .tuple #[.agg D, .int .i64 (atHE x n)]) (Sav.pair_resultsS Tryz.results7 _ _ w.heap.size _ D _ hd6 hdi (by rfl) (by rfl)) rfl ⟨D, HD.out, rfl, ?_⟩
    have h2 := HB.out.trans (hb2.mono HB.out.size)
    exact h2.trans (ht6.below h2.size (fun k hk => by omega))
end

/-- Both inputs of a frame, known and kept. -/
def knB (x : H) (n : Int) : Bool := decide ((x.low : Int) ≤ n ∧ n < (x.ks 0).length ∧ n < (x.ks 1).length)
def knV (x : H) (i : Nat) (n : Int) : Nat := if knB x n = true then (x.ks i).getD n.toNat 0 else 0
theorem think_H {c : Cfg} {x : H} {i : Nat} (hl : x.low ≤ (x.ks i).length) (n : Int) :
    (thinkE (qH c x i) n = 0 ∧ thinkK (qH c x i) n = true ↔ ((x.low : Int) ≤ n ∧ n < (x.ks i).length)) ∧ ((x.low : Int) ≤ n ∧ n < (x.ks i).length → thinkV (qH c x i) n = ((x.ks i).getD n.toNat 0 : Nat)) := by
  have hk := qH_kl (c := c) (x := x) (i := i)
  have kf : (qH c x i).kf = x.low := rfl
  refine ⟨⟨fun ⟨h1, h2⟩ => ?_, fun ⟨h1, h2⟩ => ⟨?_, ?_⟩⟩, fun ⟨h1, h2⟩ => ?_⟩
  · unfold thinkK at h2
    simp at h2
    omega
  · unfold thinkE; rw [if_neg (by omega)]
  · unfold thinkK; simp; omega
  · have := qH_thinkV (c := c) (x := x) (i := i) (f := n.toNat) (by omega) hl
    rw [show ((n.toNat : Nat) : Int) = n by omega] at this
    rw [this]
    unfold th
    rw [if_pos (by omega)]
theorem pair_resultsI {fn : Func} (hfn : fn.results = #[.cell 4 32, .tmp 5]) (tmps : Array Value) (W : World) (g : Nat) (t : TypeId) (C : Array Value) (v : Value) (h : Blk W g t C) (hC : (Tryz.prog.info? 32).map (·.size) = some C.size)
    (h4 : tmps.getD 4 undef = .pointer (some ⟨g, 0, none⟩)) (h5 : tmps.getD 5 undef = v) : (results fn tmps).run Tryz.prog W = .ok (.tuple #[.agg C, v]) W := by
  have e4 : tmps[4]?.getD undef = .pointer (some ⟨g, 0, none⟩) := by simpa using h4
  have e5 : tmps[5]?.getD undef = v := by simpa using h5
  have hl := run_loadVar_row (P := Tryz.prog) W g t 32 C (0, 0) _ h Tryz.underlying32 rfl hC
  simp [results, hfn, e4, e5, asAddr, hl]

/-- Behind i rounds of Known's loop. -/
structure KnR (w wr : World) (a b : Int) (i : Nat) : Prop where
  res : Blk wr w.heap.size 32 #[.int .u16 0, .int .u16 0]
  arr : Blk wr (w.heap.size + 1) 32 #[.int .u16 (if 0 < i then a else 0), .int .u16 (if 1 < i then b else 0)]
  lo : Below w.heap.size w wr
attribute [local go_sem] idx0 idx1
set_option maxRecDepth 100000 in
set_option maxHeartbeats 8000000 in
theorem known_h (w : World) (c : Cfg) (s : SE) (x : H) (n : Int) (h : HAt w c s x) (j : J c x) (hn : n ≤ 9223372036854775807) :
    Calls Tryz.prog 9 #[.pointer (some ⟨s.g, 0, none⟩), .int .i64 n] w fun e w' => e = .returned (.tuple #[.agg #[.int .u16 (knV x 0 n : Int), .int .u16 (knV x 1 n : Int)], .bool (knB x n)]) ∧ Below w.heap.size w w' := by
  obtain ⟨p, C, hE, hs⟩ := h
  have ok := HAt.ok hs j.j0
  have pT := Lib.hid (show ∀ wr i, Below w.heap.size w wr → i < 2 → Calls Tryz.prog 27 #[.pointer (some ⟨(s.ss i).q, 0, none⟩), .int .i64 n] wr fun e w' => e = .returned (.tuple #[.int .u16 (thinkV (qH c x i) n), .bool (thinkK (qH c x i) n), .int .i64 (thinkE (qH c x i) n)]) ∧ ∃ n, w' = wr.drewN n from fun wr i hb hi => by
    have := think_any wr (s.ss i) (p.qs i) n ((hE.below hb).qa i hi) (ok.q i hi) hn
    rw [hs.q i hi] at this
    exact this)
  have t0 := think_H (c := c) (j.ll 0 (by omega)) n
  have t1 := think_H (c := c) (j.ll 1 (by omega)) n
  have hno0 := Lib.hid (show ¬ (thinkE (qH c x 0) n = 0 ∧ thinkK (qH c x 0) n = true) → knB x n = false from fun h => by
    unfold knB; simp only [decide_eq_false_iff_not]; rintro ⟨a, b, d⟩; exact h (t0.1.2 ⟨a, b⟩))
  have hno1 := Lib.hid (show ¬ (thinkE (qH c x 1) n = 0 ∧ thinkK (qH c x 1) n = true) → knB x n = false from fun h => by
    unfold knB; simp only [decide_eq_false_iff_not]; rintro ⟨a, b, d⟩; exact h (t1.1.2 ⟨a, d⟩))
  have hyes := Lib.hid (show (thinkE (qH c x 0) n = 0 ∧ thinkK (qH c x 0) n = true) → (thinkE (qH c x 1) n = 0 ∧ thinkK (qH c x 1) n = true) → knB x n = true ∧ thinkV (qH c x 0) n = knV x 0 n ∧ thinkV (qH c x 1) n = knV x 1 n from fun h0 h1 => by
    have a := t0.1.1 h0
    have b := t1.1.1 h1
    have hk : knB x n = true := by unfold knB; simp only [decide_eq_true_eq]; exact ⟨a.1, a.2, b.2⟩
    refine ⟨hk, ?_, ?_⟩
    · rw [t0.2 a]; unfold knV; rw [if_pos hk]
    · rw [t1.2 b]; unfold knV; rw [if_pos hk])
  have hz : knB x n = false → knV x 0 n = 0 ∧ knV x 1 n = 0 := fun h => by unfold knV; rw [h]; exact ⟨rfl, rfl⟩
  have HZ := Lib.hid hz
  obtain ⟨W1, hW1⟩ : ∃ W1, W1 = (w.alloc (.cells #[.int .u16 0, .int .u16 0] 32)).alloc (.cells #[.int .u16 0, .int .u16 0] 32) := ⟨_, rfl⟩
  have hB : Below w.heap.size w W1 := by rw [hW1]; exact ((Below.refl _ w).alloc (Nat.le_refl _) _).alloc (by simp) _
  have hR0 : KnR w W1 (thinkV (qH c x 0) n) (thinkV (qH c x 1) n) 0 := by
    refine ⟨by rw [hW1]; exact (Blk.new _ _ _).alloc _, ?_, hB⟩
    rw [hW1]
    have := Blk.new (w.alloc (.cells #[.int .u16 0, .int .u16 0] 32)) 32 #[.int .u16 0, .int .u16 0]
    simpa using this
  have h4 := (hE.below hB).c4
  have h5 := (hE.below hB).c5
  have HR0 := Lib.hid hR0
  have pT0 := Lib.hid (fun wr hb => pT.out wr 0 hb (by omega))
  have pT1 := Lib.hid (fun wr hb => pT.out wr 1 hb (by omega))
  clear pT t0 t1 hz hE hs ok hR0 j
  generalize thinkV (qH c x 0) n = v0 at *
  generalize thinkV (qH c x 1) n = v1 at *
  generalize thinkE (qH c x 0) n = e0 at *
  generalize thinkE (qH c x 1) n = e1 at *
  generalize thinkK (qH c x 0) n = k0 at *
  generalize thinkK (qH c x 1) n = k1 at *
  generalize knB x n = kb at *
  generalize knV x 0 n = a0 at *
  generalize knV x 1 n = a1 at *
  have HB := Lib.hid hB
  go_enter Tryz.func9, Tryz.ntmps9
  go_upto_region 2 with fail
  rw [← hW1]
  clear hW1 hB
  go_wp2_with fail
  clear h4 h5
  go_loopw [16] (fun iv wr => ∃ i : Nat, i ≤ 2 ∧ iv = .int .i64 (i : Int) ∧ KnR w wr v0 v1 i ∧ (0 < i → e0 = 0 ∧ k0 = true) ∧ (1 < i → e1 = 0 ∧ k1 = true)) (fun iv _ => 2 - (intOf iv).toNat)
  case atStart => exact ⟨0, by omega, rfl, HR0.out, fun h => absurd h (by omega), fun h => absurd h (by omega)⟩
  case round =>
    clear HR0 HB
    obtain ⟨i, hi, rfl, hR, hok0, hok1⟩ := hrel
    obtain rfl | rfl | rfl : i = 0 ∨ i = 1 ∨ i = 2 := by omega
    · rw [show ((0 : Nat) : Int) = 0 from rfl]
      have r0 := hR.res.cell 0
      have r1 := hR.res.cell 1
      simp only [List.getElem?_toArray, List.getElem?_cons_zero, List.getElem?_cons_succ] at r0 r1
      have f0 := hR.res.frozen 0
      have f1 := hR.res.frozen 1
      have g0 := hR.arr.frozen 0
      have g1 := hR.arr.cell 0
      simp only [List.getElem?_toArray, List.getElem?_cons_zero, List.getElem?_cons_succ] at g1
      have PT := Lib.hid (pT0.out wr hR.lo)
      have HRR := Lib.hid hR
      have HK9 := Lib.hid hok0
      clear hR hok0 hok1
      by_cases he : e0 = 0
      · have he' : (e0 == 0) = true := by simpa using he
        cases hkk : k0 with
        | true =>
          have HOK := Lib.hid (show e0 = 0 ∧ k0 = true from ⟨he, hkk⟩)
          rw [hkk] at PT
          clear hkk
          subst he
          go_wp2_with fail
          refine PT.out.mono ?_
          rintro e w2 ⟨rfl, nq, rfl⟩
          go_wp2_with fail
          go_roundw
          case rel => exact ⟨1, by omega, rfl, ⟨(HRR.out.res.drewN nq).touch (S := fun k => k = w.heap.size + 1) (touch_g (wr.drewN nq) (w.heap.size + 1) 0 _) (by intro e; have e' : w.heap.size = w.heap.size + 1 := e; omega), Blk.set_ HRR.out.arr 0 _, (below_drewN HRR.out.lo nq).setCell (by simp) _⟩, fun _ => ⟨trivial, trivial⟩, fun h => absurd h (by omega)⟩
          case measure => simp [intOf]
        | false =>
          have HF := Lib.hid (hno0.out (fun h => by rw [hkk] at h; exact absurd h.2 (by decide)))
          rw [hkk] at PT
          clear hkk
          subst he
          go_wp2_with fail
          refine PT.out.mono ?_
          rintro e w2 ⟨rfl, nq, rfl⟩
          go_wp2_with fail
          refine bodyPost_ret (v := .tuple #[.agg #[.int .u16 0, .int .u16 0], .bool false]) (pair_resultsI Tryz.results9 _ _ w.heap.size _ #[.int .u16 0, .int .u16 0] _ (Blk.set_ (Blk.set_ (HRR.out.res.drewN nq) 0 _) 1 _) (by kernel_rfl) (by rfl) (by rfl)) rfl ⟨by rw [HF.out, (HZ.out HF.out).1, (HZ.out HF.out).2]; rfl, ?_⟩
          exact ((below_drewN HRR.out.lo nq).setCell (Nat.le_refl _) _).setCell (Nat.le_refl _) _
      · have he' : (e0 == 0) = false := by simpa using he
        have HF := Lib.hid (hno0.out (fun h => he h.1))
        go_wp2_with fail
        refine PT.out.mono ?_
        rintro e w2 ⟨rfl, nq, rfl⟩
        go_wp2_with fail
        refine bodyPost_ret (v := .tuple #[.agg #[.int .u16 0, .int .u16 0], .bool false]) (pair_resultsI Tryz.results9 _ _ w.heap.size _ #[.int .u16 0, .int .u16 0] _ (Blk.set_ (Blk.set_ (HRR.out.res.drewN nq) 0 _) 1 _) (by kernel_rfl) (by rfl) (by rfl)) rfl ⟨by rw [HF.out, (HZ.out HF.out).1, (HZ.out HF.out).2]; rfl, ?_⟩
        exact ((below_drewN HRR.out.lo nq).setCell (Nat.le_refl _) _).setCell (Nat.le_refl _) _
    · rw [show ((1 : Nat) : Int) = 1 from rfl]
      have r0 := hR.res.cell 0
      have r1 := hR.res.cell 1
      simp only [List.getElem?_toArray, List.getElem?_cons_zero, List.getElem?_cons_succ] at r0 r1
      have f0 := hR.res.frozen 0
      have f1 := hR.res.frozen 1
      have g0 := hR.arr.frozen 1
      have g1 := hR.arr.cell 1
      simp only [List.getElem?_toArray, List.getElem?_cons_zero, List.getElem?_cons_succ] at g1
      have PT := Lib.hid (pT1.out wr hR.lo)
      have HRR := Lib.hid hR
      have HK9 := Lib.hid hok0
      clear hR hok0 hok1
      by_cases he : e1 = 0
      · have he' : (e1 == 0) = true := by simpa using he
        cases hkk : k1 with
        | true =>
          have HOK := Lib.hid (show e1 = 0 ∧ k1 = true from ⟨he, hkk⟩)
          rw [hkk] at PT
          clear hkk
          subst he
          go_wp2_with fail
          refine PT.out.mono ?_
          rintro e w2 ⟨rfl, nq, rfl⟩
          go_wp2_with fail
          go_roundw
          case rel => exact ⟨2, by omega, rfl, ⟨(HRR.out.res.drewN nq).touch (S := fun k => k = w.heap.size + 1) (touch_g (wr.drewN nq) (w.heap.size + 1) 1 _) (by intro e; have e' : w.heap.size = w.heap.size + 1 := e; omega), Blk.set_ HRR.out.arr 1 _, (below_drewN HRR.out.lo nq).setCell (by simp) _⟩, fun _ => HK9.out (by omega), fun _ => ⟨trivial, trivial⟩⟩
          case measure => simp [intOf]
        | false =>
          have HF := Lib.hid (hno1.out (fun h => by rw [hkk] at h; exact absurd h.2 (by decide)))
          rw [hkk] at PT
          clear hkk
          subst he
          go_wp2_with fail
          refine PT.out.mono ?_
          rintro e w2 ⟨rfl, nq, rfl⟩
          go_wp2_with fail
          refine bodyPost_ret (v := .tuple #[.agg #[.int .u16 0, .int .u16 0], .bool false]) (pair_resultsI Tryz.results9 _ _ w.heap.size _ #[.int .u16 0, .int .u16 0] _ (Blk.set_ (Blk.set_ (HRR.out.res.drewN nq) 0 _) 1 _) (by kernel_rfl) (by rfl) (by rfl)) rfl ⟨by rw [HF.out, (HZ.out HF.out).1, (HZ.out HF.out).2]; rfl, ?_⟩
          exact ((below_drewN HRR.out.lo nq).setCell (Nat.le_refl _) _).setCell (Nat.le_refl _) _
      · have he' : (e1 == 0) = false := by simpa using he
        have HF := Lib.hid (hno1.out (fun h => he h.1))
        go_wp2_with fail
        refine PT.out.mono ?_
        rintro e w2 ⟨rfl, nq, rfl⟩
        go_wp2_with fail
        refine bodyPost_ret (v := .tuple #[.agg #[.int .u16 0, .int .u16 0], .bool false]) (pair_resultsI Tryz.results9 _ _ w.heap.size _ #[.int .u16 0, .int .u16 0] _ (Blk.set_ (Blk.set_ (HRR.out.res.drewN nq) 0 _) 1 _) (by kernel_rfl) (by rfl) (by rfl)) rfl ⟨by rw [HF.out, (HZ.out HF.out).1, (HZ.out HF.out).2]; rfl, ?_⟩
        exact ((below_drewN HRR.out.lo nq).setCell (Nat.le_refl _) _).setCell (Nat.le_refl _) _
    · rw [show ((2 : Nat) : Int) = 2 from rfl]
      obtain ⟨hk, hv0, hv1⟩ := hyes.out (hok0 (by omega)) (hok1 (by omega))
      have r0 := hR.res.cell 0
      have r1 := hR.res.cell 1
      have a0' := hR.arr.cell 0
      have a1' := hR.arr.cell 1
      simp only [List.getElem?_toArray, List.getElem?_cons_zero, List.getElem?_cons_succ, if_pos (show (0 : Nat) < 2 by omega), if_pos (show (1 : Nat) < 2 by omega)] at r0 r1 a0' a1'
      have f0 := hR.res.frozen 0
      have f1 := hR.res.frozen 1
      have HRR := Lib.hid hR
      have HK := Lib.hid hk
      have HV0 := Lib.hid hv0
      have HV1 := Lib.hid hv1
      clear hR hk hv0 hv1 hok0 hok1
      go_wp2_with fail
      refine bodyPost_ret (v := .tuple #[.agg #[.int .u16 v0, .int .u16 v1], .bool true]) (pair_resultsI Tryz.results9 _ _ w.heap.size _ #[.int .u16 v0, .int .u16 v1] _ (Blk.set_ (Blk.set_ HRR.out.res 0 _) 1 _) (by kernel_rfl) (by rfl) (by rfl)) rfl ⟨by rw [HK.out, HV0.out, HV1.out], ?_⟩
      exact (HRR.out.lo.setCell (Nat.le_refl _) _).setCell (Nat.le_refl _) _
end Go.Proofs.YtckkpgopddnkiaaGreat.Rl
namespace Go.Proofs.YtckkpgopddnkiaaGreat.Rl
open Go.RowKit Go.Sort Go.Proofs.YtckkpgopddnkiaaGreat.Gm Go.Proofs.YtckkpgopddnkiaaGreat.RingE Go.Proofs.YtckkpgopddnkiaaGreat.Inputq
set_option linter.all false

/-- An engine made since the call began. -/
def Own (w0 w : World) (c : Cfg) (s : SE) (x : H) : Prop := HAt w c s x ∧ Below w0.heap.size w0 w ∧ ∀ k, fpE s k → w0.heap.size ≤ k
theorem Own.turn {w0 w w' : World} {c : Cfg} {s : SE} {x x' : H} (h : Own w0 w c s x) (ht : HTurn w c s x' w') : ∃ s', s'.g = s.g ∧ Own w0 w' c s' x' := by
  obtain ⟨hA, hb, hF⟩ := h
  obtain ⟨s', e, hA', hT, hF'⟩ := ht.at
  refine ⟨s', e.1, hA', hb.trans (hT.below hb.size hF), fun k hk => ?_⟩
  rcases hF' k hk with a | a
  · exact hF k a
  · exact Nat.le_trans hb.size a
theorem Own.below {w0 w w' : World} {c : Cfg} {s : SE} {x : H} (h : Own w0 w c s x) (hb : Below w.heap.size w w') : Own w0 w' c s x := ⟨h.1.below hb, h.2.1.trans (hb.mono h.2.1.size), h.2.2⟩

def rightB (lo de ah : Int) : Bool := decide (0 ≤ lo ∧ lo ≤ 1 ∧ 1 ≤ ah ∧ ah ≤ 16 ∧ 0 ≤ de ∧ de ≤ 8)
set_option maxRecDepth 100000 in
set_option maxHeartbeats 4000000 in
theorem right_law (w : World) (sd lo de ah : Int) :
    Calls Tryz.prog 18 #[.agg #[.int .u32 sd, .int .i64 lo, .int .i64 de, .int .i64 ah]] w fun e w' => e = .returned (.bool (rightB lo de ah)) ∧ Below w.heap.size w w' := by
  have hb : ∀ r, decide (0 ≤ lo ∧ lo ≤ 1 ∧ 1 ≤ ah ∧ ah ≤ 16 ∧ 0 ≤ de ∧ de ≤ 8) = r → rightB lo de ah = r := fun r h => h
  have HB := Lib.hid hb
  have hB : Below w.heap.size w (w.alloc (.cells #[.int .u32 sd, .int .i64 lo, .int .i64 de, .int .i64 ah] 24)) := (Below.refl _ w).alloc (Nat.le_refl _) _
  have HW := Lib.hid hB
  clear hb hB
  by_cases h1 : 0 ≤ lo
  · by_cases h2 : lo ≤ 1
    · by_cases h3 : 1 ≤ ah
      · by_cases h4 : ah ≤ 16
        · by_cases h5 : 0 ≤ de
          · by_cases h6 : de ≤ 8
            · have E := Lib.hid (HB.out true (by simp; omega))
              go_enter Tryz.func18, Tryz.ntmps18
              go_wp2_with fail
              go_ret
              exact ⟨by rw [E.out]; rfl, HW.out⟩
            · have E := Lib.hid (HB.out false (by simp; omega))
              go_enter Tryz.func18, Tryz.ntmps18
              go_wp2_with fail
              go_ret
              exact ⟨by rw [E.out]; rfl, HW.out⟩
          · have E := Lib.hid (HB.out false (by simp; omega))
            go_enter Tryz.func18, Tryz.ntmps18
            go_wp2_with fail
            go_ret
            exact ⟨by rw [E.out]; rfl, HW.out⟩
        · have E := Lib.hid (HB.out false (by simp; omega))
          go_enter Tryz.func18, Tryz.ntmps18
          go_wp2_with fail
          go_ret
          exact ⟨by rw [E.out]; rfl, HW.out⟩
      · have E := Lib.hid (HB.out false (by simp; omega))
        go_enter Tryz.func18, Tryz.ntmps18
        go_wp2_with fail
        go_ret
        exact ⟨by rw [E.out]; rfl, HW.out⟩
    · have E := Lib.hid (HB.out false (by simp; omega))
      go_enter Tryz.func18, Tryz.ntmps18
      go_wp2_with fail
      go_ret
      exact ⟨by rw [E.out]; rfl, HW.out⟩
  · have E := Lib.hid (HB.out false (by simp; omega))
    go_enter Tryz.func18, Tryz.ntmps18
    go_wp2_with fail
    go_ret
    exact ⟨by rw [E.out]; rfl, HW.out⟩

def cA : Cfg := ⟨0, 0, 0, 2⟩
def yA0 : H := newH cA
def yA1 : H := advH cA yA0 1
def yA2 : H := advH cA yA1 1
def yA3 : H := advH cA yA2 1
def yA4 : H := addHR cA yA3 3
def yA5 : H := advH cA yA4 1
theorem jA0 : J cA yA0 := newH_J (by decide) (by decide) (by decide) (by decide)
theorem fA : advE cA yA0 = 0 ∧ advE cA yA1 = 0 ∧ advE cA yA2 = 250 ∧ addHC cA yA3 = 0 ∧ advE cA yA4 = 0 ∧ yA5.ro = 1 ∧ (yA0.us.length < 110 ∧ yA1.us.length < 110 ∧ yA2.us.length < 110 ∧ yA4.us.length < 110) ∧ (yA0.ro ≤ 0 ∧ yA0.re ≤ 200 * 0) ∧ (yA1.ro ≤ 0 ∧ yA1.re ≤ 200 * 0) ∧ (yA2.ro ≤ 0 ∧ yA2.re ≤ 200 * 0) ∧ (yA4.ro ≤ 0 ∧ yA4.re ≤ 200 * 0) := by decide

set_option maxRecDepth 100000 in
set_option maxHeartbeats 8000000 in
theorem awake25 (w : World) : Calls Tryz.prog 5 #[] w fun e w' => e = .returned (.bool true) ∧ Below w.heap.size w w' := by
  obtain ⟨f0, f1, f2, f3, f4, f5, ⟨n0, n1, n2, n4⟩, ⟨r0, q0⟩, ⟨r1, q1⟩, ⟨r2, q2⟩, r4, q4⟩ := fA
  have j0 := jA0
  have j1 : J cA yA1 := j0.adv (by decide) n0
  have j2 : J cA yA2 := j1.adv (by decide) n1
  have j3 : J cA yA3 := j2.adv (by decide) n2
  have j4 : J cA yA4 := j3.addR (by decide)
  have pN := Lib.hid (show Calls Tryz.prog 14 #[.agg #[.int .u32 0, .int .i64 0, .int .i64 0, .int .i64 2]] w fun e w' => ∃ s, e = .returned (.tuple #[.pointer (some ⟨s.g, 0, none⟩), .int .i64 0]) ∧ Own w w' cA s yA0 from
    (new_any w cA (by decide) (by decide) (by decide) (by decide)))
  have p1 := Lib.hid (show ∀ W s, Own w W cA s yA0 → Calls Tryz.prog 15 #[.pointer (some ⟨s.g, 0, none⟩), .int .u16 1] W fun e w' => e = .returned (.int .i64 0) ∧ ∃ s', s'.g = s.g ∧ Own w w' cA s' yA1 from fun W s h => by
    have := advance_h W cA s yA0 1 0 h.1 j0 (by omega) n0 (by omega) r0 q0
    rw [f0] at this
    exact this.mono fun e w' ⟨a, b⟩ => ⟨a, h.turn b⟩)
  have p2 := Lib.hid (show ∀ W s, Own w W cA s yA1 → Calls Tryz.prog 15 #[.pointer (some ⟨s.g, 0, none⟩), .int .u16 1] W fun e w' => e = .returned (.int .i64 0) ∧ ∃ s', s'.g = s.g ∧ Own w w' cA s' yA2 from fun W s h => by
    have := advance_h W cA s yA1 1 0 h.1 j1 (by omega) n1 (by omega) r1 q1
    rw [f1] at this
    exact this.mono fun e w' ⟨a, b⟩ => ⟨a, h.turn b⟩)
  have p3 := Lib.hid (show ∀ W s, Own w W cA s yA2 → Calls Tryz.prog 15 #[.pointer (some ⟨s.g, 0, none⟩), .int .u16 1] W fun e w' => e = .returned (.int .i64 250) ∧ ∃ s', s'.g = s.g ∧ Own w w' cA s' yA3 from fun W s h => by
    have := advance_h W cA s yA2 1 0 h.1 j2 (by omega) n2 (by omega) r2 q2
    rw [f2] at this
    exact this.mono fun e w' ⟨a, b⟩ => ⟨a, h.turn b⟩)
  have p4 := Lib.hid (show ∀ W s, Own w W cA s yA3 → Calls Tryz.prog 16 #[.pointer (some ⟨s.g, 0, none⟩), .int .u16 3] W fun e w' => (∃ z, e = .returned (.tuple #[.int .i64 z, .int .i64 0])) ∧ ∃ s', s'.g = s.g ∧ Own w w' cA s' yA4 from fun W s h => by
    have := addRemote_h h.1 j3 3
    rw [f3] at this
    exact this.mono fun e w' ⟨a, b⟩ => ⟨⟨_, a⟩, h.turn b⟩)
  have p5 := Lib.hid (show ∀ W s, Own w W cA s yA4 → Calls Tryz.prog 15 #[.pointer (some ⟨s.g, 0, none⟩), .int .u16 1] W fun e w' => e = .returned (.int .i64 0) ∧ ∃ s', s'.g = s.g ∧ Own w w' cA s' yA5 from fun W s h => by
    have := advance_h W cA s yA4 1 0 h.1 j4 (by omega) n4 (by omega) r4 q4
    rw [f4] at this
    exact this.mono fun e w' ⟨a, b⟩ => ⟨a, h.turn b⟩)
  have p6 := Lib.hid (show ∀ W s, Own w W cA s yA5 → Calls Tryz.prog 17 #[.pointer (some ⟨s.g, 0, none⟩)] W fun e w' => e = .returned (.int .i64 1) ∧ w' = W from fun W s h => by
    have := rolls_h h.1
    rw [f5] at this
    exact this)
  clear f0 f1 f2 f3 f4 f5 n0 n1 n2 n4 r0 q0 r1 q1 r2 q2 r4 q4 j0 j1 j2 j3 j4
  go_enter Tryz.func5, Tryz.ntmps5
  go_wp2_with fail
  refine pN.out.mono ?_
  rintro e w1 ⟨s, rfl, h⟩
  have H0 := Lib.hid h
  clear h
  obtain ⟨g, hg⟩ : ∃ g, s.g = g := ⟨_, rfl⟩
  have P1 := Lib.hid (p1.out w1 s H0.out)
  rw [hg] at P1 ⊢
  go_wp2_with fail
  refine P1.out.mono ?_
  rintro e w2 ⟨rfl, s1, e1, h⟩
  have P2 := Lib.hid (p2.out w2 s1 h)
  rw [e1] at P2
  clear h e1 P1 H0
  go_wp2_with fail
  refine P2.out.mono ?_
  rintro e w3 ⟨rfl, s2, e2, h⟩
  have P3 := Lib.hid (p3.out w3 s2 h)
  rw [e2] at P3
  clear h e2 P2
  go_wp2_with fail
  refine P3.out.mono ?_
  rintro e w4 ⟨rfl, s3, e3, h⟩
  have P4 := Lib.hid (p4.out w4 s3 h)
  rw [e3] at P4
  clear h e3 P3
  go_wp2_with fail
  refine P4.out.mono ?_
  rintro e w5 ⟨⟨z, rfl⟩, s4, e4, h⟩
  have P5 := Lib.hid (p5.out w5 s4 h)
  rw [e4] at P5
  clear h e4 P4
  go_wp2_with fail
  refine P5.out.mono ?_
  rintro e w6 ⟨rfl, s5, e5, h⟩
  have P6 := Lib.hid (p6.out w6 s5 h)
  rw [e5] at P6
  have HB := Lib.hid h.2.1
  clear h e5 P5
  go_wp2_with fail
  refine P6.out.mono ?_
  rintro e w7 ⟨rfl, hw⟩
  obtain rfl := hw.symm
  go_wp2_with fail
  go_ret
  exact ⟨rfl, HB.out⟩
end Go.Proofs.YtckkpgopddnkiaaGreat.Rl
namespace Go.Proofs.YtckkpgopddnkiaaGreat.Rl
open Go.RowKit Go.Sort Go.Proofs.YtckkpgopddnkiaaGreat.Gm Go.Proofs.YtckkpgopddnkiaaGreat.RingE Go.Proofs.YtckkpgopddnkiaaGreat.Inputq
set_option linter.all false

/-- A script in memory: kind, input, how often. -/
def ROps (w : World) (a : Option Addr) (ops : List (Int × Nat × Int)) : Prop :=
  (∀ o ∈ ops, o.2.1 < 65536 ∧ (-9223372036854775808 ≤ o.1 ∧ o.1 ≤ 9223372036854775807) ∧ (-9223372036854775808 ≤ o.2.2 ∧ o.2.2 ≤ 9223372036854775807)) ∧
  (0 < ops.length → ∃ b off, a = some ⟨b, off, none⟩ ∧ b < w.heap.size ∧ ∀ j o, ops[j]? = some o →
    w.cell? ⟨b, off + j * 3, none⟩ = some (.int .i64 o.1) ∧ w.cell? ⟨b, off + j * 3 + 1, none⟩ = some (.int .u16 (o.2.1 : Int)) ∧ w.cell? ⟨b, off + j * 3 + 1 + 1, none⟩ = some (.int .i64 o.2.2))
theorem ROps.below {w w' : World} {a : Option Addr} {ops : List (Int × Nat × Int)} (h : ROps w a ops) (hb : Below w.heap.size w w') : ROps w' a ops :=
  ⟨h.1, fun hp => by
    obtain ⟨b, off, e, hlt, hc⟩ := h.2 hp
    refine ⟨b, off, e, Nat.lt_of_lt_of_le hlt hb.size, fun j o ho => ?_⟩
    obtain ⟨h0, h1, h2⟩ := hc j o ho
    exact ⟨(hb.cell (p := ⟨b, _, none⟩) hlt).trans h0, (hb.cell (p := ⟨b, _, none⟩) hlt).trans h1, (hb.cell (p := ⟨b, _, none⟩) hlt).trans h2⟩⟩

/-- The frames that are sure were played with the known inputs. -/
theorem sure_us {c : Cfg} {x : H} (j : J c x) {i : Nat} (hi : (i : Int) < sureH x) : x.us[i]? = some ((x.ks 0).getD i 0, (x.ks 1).getD i 0) := by
  have hs := sureH_le x
  have key : ∀ k, k < 2 → x.wr k = -1 ∨ (i : Int) < x.wr k := fun k hk => by
    have e0 : sureHN x 0 = minI (confH x) x.us.length := rfl
    have e1 : sureHN x 1 = if 0 ≤ x.wr 0 then minI (sureHN x 0) (x.wr 0) else sureHN x 0 := rfl
    have e2 : sureH x = if 0 ≤ x.wr 1 then minI (sureHN x 1) (x.wr 1) else sureHN x 1 := rfl
    have m1 := minI_le (sureHN x 0) (x.wr 0)
    have m2 := minI_le (sureHN x 1) (x.wr 1)
    have b := j.wb k hk
    obtain rfl | rfl : k = 0 ∨ k = 1 := by omega
    · split at e1 <;> split at e2 <;> omega
    · split at e1 <;> split at e2 <;> omega
  have h0 := j.ag 0 (by omega) i (by omega) (by omega) (key 0 (by omega))
  have h1 := j.ag 1 (by omega) i (by omega) (by omega) (key 1 (by omega))
  have hu : i < x.us.length := by omega
  rw [col_get, List.getElem?_eq_getElem hu] at h0 h1
  rw [List.getElem?_eq_getElem hu]
  rw [List.getD_eq_getElem?_getD, List.getD_eq_getElem?_getD, ← h0, ← h1]
  rfl
/-- Two histories whose known inputs are the same as far as both are sure. -/
theorem sums_same {c1 c2 : Cfg} {x y : H} (j1 : J c1 x) (j2 : J c2 y) (hsd : c1.sd = c2.sd) (hk : ∀ k, k < 2 → ∀ i, i < (x.ks k).length → i < (y.ks k).length → (x.ks k)[i]? = (y.ks k)[i]?) {n : Nat} (h1 : (n : Int) ≤ sureH x) (h2 : (n : Int) ≤ sureH y) :
    pl c1.sd x.us n = pl c2.sd y.us n := by
  rw [hsd]
  refine pl_congr _ n (fun i hi => ?_)
  have a := sureH_le x
  have b := sureH_le y
  rw [sure_us j1 (by omega), sure_us j2 (by omega)]
  have e : ∀ k, k < 2 → (x.ks k).getD i 0 = (y.ks k).getD i 0 := fun k hk2 => by
    rw [List.getD_eq_getElem?_getD, List.getD_eq_getElem?_getD, hk k hk2 i ?_ ?_]
    · obtain rfl | rfl : k = 0 ∨ k = 1 := by omega
      · omega
      · omega
    · obtain rfl | rfl : k = 0 ∨ k = 1 := by omega
      · omega
      · omega
  rw [e 0 (by omega), e 1 (by omega)]

def u16s (l : List Nat) : List Value := l.map (fun n : Nat => Value.int .u16 (n : Int))
theorem u16s_len (l : List Nat) : (u16s l).length = l.length := by simp [u16s]
def appI (ts : Array TypeId) (ty : TypeId) (vs : Array Value) : Sem Value := Builtin.append_ ts ty vs
theorem append_I (ts : Array TypeId) (ty : TypeId) (vs : Array Value) : Builtin.append_ ts ty vs = appI ts ty vs := rfl
/-- One input behind a list. -/
theorem app_one (V : World) (v : Value) (l : List Nat) (p x : Nat) (hon : On V 31 1 v l.length (u16s l)) (hp : Blk V p 31 #[.int .u16 (x : Int)]) (hl : l.length ≤ 1000) :
    ∃ a2 c2 w2, (appI #[28, 28] 28 #[v, .slice (some ⟨p, 0, none⟩) 1 1]).run Tryz.prog V = .ok (.slice a2 (l.length + 1) c2) w2 ∧ On w2 31 1 (.slice a2 (l.length + 1) c2) (l ++ [x]).length (u16s (l ++ [x])) ∧ V.grownBy w2 v.ownBlock ∧ (∀ g, Value.ownBlock (.slice a2 (l.length + 1) c2) = some g → v.ownBlock = some g ∨ g = V.heap.size) := by
  obtain ⟨i0, hi, hz0, hz1, hz2⟩ := info_parts RingInput.info
  have hsrc : Src V (some ⟨p, 0, none⟩) 1 [.int .u16 (x : Int)] := by
    refine .inr ⟨_, rfl, fun j u hu => ?_⟩
    have hadd : (⟨p, 0, none⟩ : Addr).add j = ⟨p, j, none⟩ := by unfold Addr.add; split <;> simp_all
    rw [hadd, hp.cell j]
    simpa using hu
  obtain ⟨v1, w1, hrun, hon1, hg1, hv1⟩ := run_append_on (P := Tryz.prog) V 28 28 31 i0 _ 1 2 Tryz.underlying28 hi hz0 hz1 hz2 rfl (by omega)
    v l.length (u16s l) hon (some ⟨p, 0, none⟩) 1 1 [.int .u16 (x : Int)] rfl hsrc (by intro u hu; simp at hu; rw [hu]; rfl) (by simp only [maxLen]; omega) (by omega)
  obtain ⟨a2, c2, rfl, _, _⟩ := hon1.slice
  refine ⟨a2, c2, w1, hrun, ?_, hg1, fun g hg => ?_⟩
  · rw [List.length_append, List.length_singleton]
    have : u16s (l ++ [x]) = u16s l ++ [.int .u16 (x : Int)] := by simp [u16s]
    rw [this]; exact hon1
  · rcases hv1 with e | e
    · exact .inl (e ▸ hg)
    · rw [e] at hg; cases hg; exact .inr rfl

def Cfg.of (c : Cfg) (k : Nat) : Cfg := { c with lo := k }
section
variable {w wr W : World} {cf : Cfg} {ga gb d e : Nat} {sa sb : SE} {xa xb : H} {v0 v1 : Value} {S0 S1 T0 T1 : List Nat} {m0 m1 n0 n1 K : Nat}
theorem HAt.other {c : Cfg} {s : SE} {x : H} (h : HAt wr c s x) {k : Nat} {t : TypeId} {cs : Array Value} (hb : Blk wr k t cs)
    (ht : t ≠ 78 ∧ t ≠ 107 ∧ t ≠ 125 ∧ t ≠ 31 ∧ t ≠ 102 ∧ t ≠ 123 ∧ t ≠ 98) : ¬ fpE s k := by
  obtain ⟨p, C, hE, -⟩ := h
  exact hE.other hb ht
end
end Go.Proofs.YtckkpgopddnkiaaGreat.Rl
