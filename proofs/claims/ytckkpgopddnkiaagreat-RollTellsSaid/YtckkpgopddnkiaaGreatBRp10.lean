/-
  Texts joined: SavAB, RlA, RlB, RlC. No condition.
-/
import Derived.Test.YtckkpgopddnkiaaGreatBRp9
import Derived.Deep.QuietTactic
import Derived.BigQuiet
import Derived.Deep.Cut
import Derived.Deep.CutBlock
import Derived.StillTailTactics
namespace Go.Proofs.YtckkpgopddnkiaaGreat.Sav
open Go.RowKit Go.Sort Go.Proofs.YtckkpgopddnkiaaGreat.Gm Go.Proofs.YtckkpgopddnkiaaGreat.RingE
set_option linter.all false

/-- Saved states in memory: their block, and the ring. -/
def SA (w : World) (g r : Nat) (room first : Int) (sv : Value) (l : List NT) : Prop :=
  Blk w g 102 #[.pointer (some ⟨r, 0, none⟩)] ∧ At w r room first sv l
section
variable {S : Nat → Prop} {w w' : World} {g r : Nat} {room first : Int} {sv : Value} {l : List NT}
theorem SA.c0 (h : SA w g r room first sv l) : w.cell? ⟨g, 0, none⟩ = some (.pointer (some ⟨r, 0, none⟩)) := Blk.cell h.1 0
theorem SA.below (h : SA w g r room first sv l) (hb : Below w.heap.size w w') : SA w' g r room first sv l := ⟨Blk.below h.1 hb (Blk.lt h.1), h.2.below hb⟩
theorem SA.drewN (h : SA w g r room first sv l) (n : Nat) : SA (w.drewN n) g r room first sv l := h
theorem SA.ng (h : SA w g r room first sv l) : ¬ fp r sv g := fun hk => hk.elim (fun e => Blk.ne_ h.1 h.2.1 (by decide) e) (fun e => On.blk_ne h.2.2 h.1 (by decide) e)
end
/-- What a call leaves: saved states, their ring in its own blocks or new ones; nothing else has turned. -/
def TurnedS (w : World) (g r : Nat) (sv : Value) (room first : Int) (l : List NT) (w' : World) : Prop :=
  ∃ sv', SA w' g r room first sv' l ∧ Touch (fp r sv) w w' ∧ ∀ k, fp r sv' k → fp r sv k ∨ w.heap.size ≤ k
theorem TurnedS.of {w w' : World} {g r : Nat} {room first f' : Int} {sv : Value} {l l' : List NT} (h : SA w g r room first sv l) (ht : Turned w r sv room f' l' w') : TurnedS w g r sv room f' l' w' := by
  obtain ⟨sv', hA, hT, hF⟩ := ht
  exact ⟨sv', ⟨Blk.touch h.1 hT h.ng, hA⟩, hT, hF⟩
theorem TurnedS.refl {w w' : World} {g r : Nat} {room first : Int} {sv : Value} {l : List NT} (h : SA w g r room first sv l) (hb : Below w.heap.size w w') : TurnedS w g r sv room first l w' :=
  ⟨sv, h.below hb, Touch.of_below hb, fun k hk => .inl hk⟩
theorem TurnedS.trans {w w1 w2 : World} {g r : Nat} {room first f' : Int} {sv : Value} {l l' : List NT} (h : TurnedS w g r sv room first l w1)
    (h' : ∀ sv', SA w1 g r room first sv' l → TurnedS w1 g r sv' room f' l' w2) : TurnedS w g r sv room f' l' w2 := by
  obtain ⟨s1, hA, hT, hF⟩ := h
  obtain ⟨s2, hB, hT2, hF2⟩ := h' s1 hA
  exact ⟨s2, hB, hT.trans hT2 (fun k hk => hF k hk), fun k hk => (hF2 k hk).elim (fun h => hF k h) (fun h => .inr (Nat.le_trans hT.size h))⟩

set_option maxHeartbeats 1000000 in
theorem new_ok (n : Int) (w : World) (h : 1 ≤ n) (h2 : n ≤ 256) :
    Calls Tryz.prog 32 #[.int .i64 n] w fun e w' => e = .returned (.tuple #[.pointer (some ⟨w.heap.size + 1, 0, none⟩), .int .i64 0]) ∧ SA w' (w.heap.size + 1) w.heap.size n 0 (.slice none 0 0) [] ∧ Below w.heap.size w w' := by
  have p := Lib.hid (fun W => RingE.new_ok n W h (by omega))
  go_enter Tryz.func32, Tryz.ntmps32
  go_wp2_with fail
  refine (p.out _).mono ?_
  rintro e w1 ⟨rfl, rfl⟩
  go_wp2_with fail
  go_ret2
  refine ⟨rfl, ⟨?_, ?_⟩, ?_⟩
  · have := Blk.new (w.alloc (.cells #[.int .i64 n, .int .i64 0, .slice none 0 0] 123)) 102 #[.pointer (some ⟨w.heap.size, 0, none⟩)]
    simpa using this
  · exact (at_new w n).alloc _
  · exact ((Below.refl _ w).alloc (Nat.le_refl _) _).alloc (by simp) _
set_option maxHeartbeats 1000000 in
theorem new_no (n : Int) (w : World) (h : n < 1 ∨ 256 < n) :
    Calls Tryz.prog 32 #[.int .i64 n] w fun e w' => e = .returned (.tuple #[.pointer none, .int .i64 1]) ∧ w = w' := by
  rcases h with h | h
  · go_enter Tryz.func32, Tryz.ntmps32
    go_wp2
    go_ret2
    exact ⟨rfl, rfl⟩
  · have h' : ¬ n < 1 := by omega
    go_enter Tryz.func32, Tryz.ntmps32
    go_wp2
    go_ret2
    exact ⟨rfl, rfl⟩
end Go.Proofs.YtckkpgopddnkiaaGreat.Sav
namespace Go.Proofs.YtckkpgopddnkiaaGreat.Sav
open Go.RowKit Go.Sort Go.Proofs.YtckkpgopddnkiaaGreat.Gm Go.Proofs.YtckkpgopddnkiaaGreat.RingE
set_option linter.all false

theorem built_E (f : F) (s : Int) : Tryz.prog.built 98 [(0, .agg (stA f)), (1, .int .u32 s)] = some (cs (f, s)).toArray := by
  show _ = _
  kernel_rfl
def buildR (P : Program) (u v : Value) (w : World) : Result Next := (Sem.run P (Instr.build 98 #[(0, u), (1, v)]) w).andThen fun u w' => .ok (.value u) w'
theorem exec_bdE (ev : Operand → Value) (dst : Option Tmp) (x y : Operand) (ty : TypeId) (pos : String) (after : Array Edge) (guard : Option (Nat × Bool)) (w : World) :
    (execOp ev { dst := dst, op := Op.build 98 #[(0, x), (1, y)], type := ty, pos := pos, after := after, guard := guard }).run Tryz.prog w = buildR Tryz.prog (ev x) (ev y) w := by
  unfold execOp buildR
  simp only [Sem.run_bind, Sem.run_pure, List.map_toArray, List.map_cons, List.map_nil]
theorem buildR_at (w : World) {C E : Array Value} {f : F} {s : Int} (LC : Let C f) (LE : EL E (f, s)) : buildR Tryz.prog (.agg C) (.int .u32 s) w = .ok (.value (.agg E)) w := by
  have e : (cs (f, s)).toArray = E := Array.ext' LE.eq.symm
  unfold buildR
  rw [LC.eq, run_build w _ _ _ (built_E f s), e]
  rfl
attribute [local go_sem ↓] exec33 exec_bdE
attribute [local go_sem] loadR_at cellsAt_drew

def saveP (first : Int) (l : List NT) (fr : Int) : Prop := l.length = 0 ∧ first = 0 ∧ 0 ≤ fr ∧ fr ≤ 1073741824
instance (first : Int) (l : List NT) (fr : Int) : Decidable (saveP first l fr) := by unfold saveP; infer_instance
def baseF (first : Int) (l : List NT) (fr : Int) : Int := if saveP first l fr then fr else first
def saveE (first : Int) (l : List NT) (fr : Int) : Int := if baseF first l fr + l.length < fr then 210 else if fr < baseF first l fr then 90 else 0
def saveF (room first : Int) (l : List NT) (f : F) : Int := if saveE first l (f 0) = 0 then putF room (baseF first l (f 0)) (cutL (baseF first l (f 0)) l (f 0)) else first
def saveL (room first : Int) (l : List NT) (f : F) : List NT := if saveE first l (f 0) = 0 then putL room (cutL (baseF first l (f 0)) l (f 0)) (f, sumL (stB f)) else l
theorem saveE_base {first : Int} {l : List NT} {fr : Int} (h : saveE first l fr ≠ 0) : baseF first l fr = first := by
  unfold saveE baseF at *
  split
  · rename_i hp
    rw [if_pos hp] at h
    exact absurd (by rw [if_neg (by omega), if_neg (by omega)]) h
  · rfl

theorem sa_uniq {w : World} {g g' r : Nat} {room room' first first' : Int} {sv sv' : Value} {l l' : List NT} (h : SA w g r room first sv l) (h' : SA w g' r room' first' sv' l') : sv = sv' := by
  have a := h.2.cells.1.2.2
  rw [h'.2.cells.1.2.2] at a
  exact (Option.some.inj a).symm

set_option maxRecDepth 100000 in
set_option maxHeartbeats 8000000 in
theorem save_any (w : World) (g r : Nat) (room first : Int) (sv : Value) (l : List NT) (C : Array Value) (f : F) (LC : Let C f) (hw : Wf f) (h : SA w g r room first sv l) (h0 : 0 ≤ first) (h1 : first + l.length ≤ 4611686018427387904) (hl : l.length ≤ 4096) (hroom : 0 < room) :
    Calls Tryz.prog 33 #[.pointer (some ⟨g, 0, none⟩), .agg C] w fun e w' => e = .returned (.int .i64 (saveE first l (f 0))) ∧ TurnedS w g r sv room (saveF room first l f) (saveL room first l f) w' := by
  obtain ⟨W1, hW1⟩ : ∃ W1, W1 = w.alloc (.cells C 47) := ⟨_, rfl⟩
  have hX : Blk W1 w.heap.size 47 C := by rw [hW1]; exact Blk.new _ _ _
  have hB : Below w.heap.size w W1 := by rw [hW1]; exact (Below.refl _ w).alloc (Nat.le_refl _) _
  have hA := h.below hB
  have hfp : ¬ fp r sv w.heap.size := fun hk => by have := h.2.lt _ hk; omega
  obtain ⟨fr, hfr⟩ : ∃ fr, f 0 = fr := ⟨_, rfl⟩
  have hcell : ∀ W, Blk W w.heap.size 47 C → W.cell? ⟨w.heap.size, 0, none⟩ = some (.int .i64 fr) := fun W hX => by
    have h := LC.sb hX
    have h2 := h.int (j := 0) (by omega) (by omega) (by omega)
    rw [hfr] at h2
    exact h2
  have HF := Lib.hid (show saveF room first l f = if saveE first l fr = 0 then putF room (baseF first l fr) (cutL (baseF first l fr) l fr) else first by unfold saveF; rw [hfr])
  have HL := Lib.hid (show saveL room first l f = if saveE first l fr = 0 then putL room (cutL (baseF first l fr) l fr) (f, sumL (stB f)) else l by unfold saveL; rw [hfr])
  have hfb : -9223372036854775808 ≤ fr ∧ fr ≤ 9223372036854775807 := by rw [← hfr]; exact hw.i64 0 (by omega)
  have HC := Lib.hid hcell
  have HX := Lib.hid hX
  have HA := Lib.hid hA
  have HB := Lib.hid hB
  have cg := hA.c0
  have c0 := hcell W1 hX
  have pL := Lib.hid (len_any W1 r room first sv l hA.2)
  have pN := Lib.hid (next_any W1 r room first sv l hA.2 h0 h1)
  rw [hfr]
  clear h hX hB hA hcell
  go_enter Tryz.func33, Tryz.ntmps33
  go_upto_region 1 with fail
  rw [← hW1]
  clear hW1
  go_cut [28] (fun v wx => v = .bool (decide (saveP first l fr)) ∧ ∃ n, wx = W1.drewN n)
  case first =>
    by_cases p1 : l.length = 0
    · have p1' : ((l.length : Int) == 0) = true := by simp [p1]
      by_cases p2 : first = 0
      · have p2' : (first + (l.length : Int) == 0) = true := by simp [p1, p2]
        by_cases p3 : 0 ≤ fr
        · by_cases p4 : fr ≤ 1073741824
          · have E := Lib.hid (show decide (saveP first l fr) = true by simp [saveP, p1, p2, p3, p4])
            have P1 := Lib.hid p1
            have P2 := Lib.hid p2
            clear p1 p2
            go_wp2_with fail
            refine pL.out.mono ?_
            rintro e w2 ⟨rfl, rfl⟩
            go_wp2_with fail
            refine pN.out.mono ?_
            rintro e w2 ⟨rfl, nq, rfl⟩
            go_wp2_with fail
            go_meet
            exact ⟨by first | (rw [E.out]; done) | (rw [E.out]; rfl) | (rw [E.out]; simp; omega), nq, rfl⟩
          · have E := Lib.hid (show decide (saveP first l fr) = false by simp [saveP, p1, p2, p3, p4])
            have P1 := Lib.hid p1
            have P2 := Lib.hid p2
            clear p1 p2
            go_wp2_with fail
            refine pL.out.mono ?_
            rintro e w2 ⟨rfl, rfl⟩
            go_wp2_with fail
            refine pN.out.mono ?_
            rintro e w2 ⟨rfl, nq, rfl⟩
            go_wp2_with fail
            go_meet
            exact ⟨by first | (rw [E.out]; done) | (rw [E.out]; rfl) | (rw [E.out]; simp; omega), nq, rfl⟩
        · have E := Lib.hid (show decide (saveP first l fr) = false by simp [saveP, p1, p2, p3])
          have P1 := Lib.hid p1
          have P2 := Lib.hid p2
          clear p1 p2
          go_wp2_with fail
          refine pL.out.mono ?_
          rintro e w2 ⟨rfl, rfl⟩
          go_wp2_with fail
          refine pN.out.mono ?_
          rintro e w2 ⟨rfl, nq, rfl⟩
          go_wp2_with fail
          go_meet
          exact ⟨by first | (rw [E.out]; done) | (rw [E.out]; rfl) | (rw [E.out]; simp; omega), nq, rfl⟩
      · have p2' : (first + (l.length : Int) == 0) = false := by simp [p1, p2]
        have E := Lib.hid (show decide (saveP first l fr) = false by simp [saveP, p1, p2])
        have P1 := Lib.hid p1
        have P2 := Lib.hid p2
        clear p1 p2
        go_wp2_with fail
        refine pL.out.mono ?_
        rintro e w2 ⟨rfl, rfl⟩
        go_wp2_with fail
        refine pN.out.mono ?_
        rintro e w2 ⟨rfl, nq, rfl⟩
        go_wp2_with fail
        go_meet
        exact ⟨by first | (rw [E.out]; done) | (rw [E.out]; rfl) | (rw [E.out]; simp; omega), nq, rfl⟩
    · have p1' : ((l.length : Int) == 0) = false := by simp; intro h; exact p1 (by rw [h]; rfl)
      have E := Lib.hid (show decide (saveP first l fr) = false by simp [saveP, p1])
      have P1 := Lib.hid p1
      clear p1
      go_wp2_with fail
      refine pL.out.mono ?_
      rintro e w2 ⟨rfl, rfl⟩
      go_wp2_with fail
      go_meet
      exact ⟨by first | (rw [E.out]; done) | (rw [E.out]; rfl) | (rw [E.out]; simp; omega), 0, rfl⟩
  case rest =>
    obtain ⟨rfl, nq, rfl⟩ := hcut
    clear pL pN
    have cg' : (W1.drewN nq).cell? ⟨g, 0, none⟩ = some (.pointer (some ⟨r, 0, none⟩)) := cg
    have c0' : (W1.drewN nq).cell? ⟨w.heap.size, 0, none⟩ = some (.int .i64 fr) := c0
    clear cg c0
    have HA2 := Lib.hid (HA.out.drewN nq)
    have HX2 := Lib.hid (HX.out.drewN nq)
    have HB2 := Lib.hid (below_drewN HB.out nq)
    have hFB := Lib.hid (show baseF first l fr = if saveP first l fr then fr else first from rfl)
    generalize W1.drewN nq = W2 at *
    go_upto_if 28 with fail
    go_cut [] (fun wx => TurnedS W2 g r sv room (baseF first l fr) l wx)
    case first =>
      by_cases hp : saveP first l fr
      · have hp' : decide (saveP first l fr) = true := by simpa using hp
        have hE : l = [] := List.eq_nil_of_length_eq_zero hp.1
        have HFB := Lib.hid (show baseF first l fr = fr by rw [hFB.out, if_pos hp])
        have HE := Lib.hid hE
        rw [hp']
        have pR := Lib.hid (fun W (h : At W r room first sv l) => reset_any W r room first fr sv l h)
        clear hp hp' hE
        go_wp2_with fail
        have hS0 : W2.drew.cell? ⟨g, 0, none⟩ = some (.pointer (some ⟨r, 0, none⟩)) ∧ W2.drew.cell? ⟨w.heap.size, 0, none⟩ = some (.int .i64 fr) := ⟨cg', c0'⟩
        refine wp_region_still_tail 6 (by kernel_rfl) (by kernel_rfl) ?_
        simp only [List.take_succ_cons, List.take_zero, List.drop_succ_cons, List.drop_zero]
        iterate 6 still_step
        refine wpStill_nil ?_
        change wpList _ _ _ _ _ (World.drew _)
        go_wp2_with fail
        refine (pR.out _ HA2.out.2.drew).mono ?_
        rintro e w3 ⟨rfl, ht⟩
        have HT := Lib.hid (TurnedS.of (w := W2) HA2.out (by
          obtain ⟨s', hA', hT', hF'⟩ := ht
          exact ⟨s', hA', ⟨hT'.os, hT'.tape, hT'.output, hT'.size, hT'.block⟩, hF'⟩))
        clear ht
        go_wp2_with fail
        go_meet
        rw [HFB.out, HE.out]
        exact HT.out
      · have hp' : decide (saveP first l fr) = false := by simpa using hp
        have HFB := Lib.hid (show baseF first l fr = first by rw [hFB.out, if_neg hp])
        rw [hp']
        clear hp hp'
        go_wp2_with fail
        go_meet
        rw [HFB.out]
        exact TurnedS.refl HA2.out (Below.refl _ _)
    case rest =>
      have hne : ¬ fp r sv w.heap.size := hfp
      have HBX := Lib.hid (Blk.lt HX2.out)
      clear cg' c0' hFB hfp
      obtain ⟨first1, hf1⟩ : ∃ x, x = baseF first l fr := ⟨_, rfl⟩
      rw [← hf1] at hcut HF HL
      have HE := Lib.hid (show saveE first l fr = if first1 + l.length < fr then 210 else if fr < first1 then 90 else 0 by rw [hf1]; rfl)
      have HF1 := Lib.hid hf1
      have hb0 : 0 ≤ first1 ∧ first1 + (l.length : Int) ≤ 4611686018427387904 := by
        rw [hf1]
        unfold baseF
        by_cases hp : saveP first l fr
        · rw [if_pos hp]
          obtain ⟨p1, p2, p3, p4⟩ := hp
          exact ⟨p3, by omega⟩
        · rw [if_neg hp]
          exact ⟨h0, h1⟩
      clear hf1
      obtain ⟨b0, b1⟩ := hb0
      obtain ⟨sv1, hA1, hT1, hF1⟩ := hcut
      have X1 : Blk wc w.heap.size 47 C := Blk.touch HX2.out hT1 hne
      have cg := hA1.c0
      have c0 := HC.out wc X1
      have HA1 := Lib.hid hA1
      have HT1 := Lib.hid hT1
      have HFr := Lib.hid hF1
      have HX1 := Lib.hid X1
      clear hA1 hT1 hF1 X1 HX2 HA2
      go_upto_region 3 with fail
      go_quiet ((go_at_call 61; exact Calls.quiet_of (next_any _ r room first1 sv1 l (HA1.out.2.drewN _) b0 b1)))
      have HA3 := Lib.hid (HA1.out.drewN nq)
      have HX3 := Lib.hid (HX1.out.drewN nq)
      have cg' : (wc.drewN nq).cell? ⟨g, 0, none⟩ = some (.pointer (some ⟨r, 0, none⟩)) := cg
      have c0' : (wc.drewN nq).cell? ⟨w.heap.size, 0, none⟩ = some (.int .i64 fr) := c0
      have HT3 := Lib.hid (show TurnedS W2 g r sv room first1 l (wc.drewN nq) from ⟨sv1, HA3.out, HT1.out.drewN nq, HFr.out⟩)
      clear cg c0
      generalize wc.drewN nq = W3 at *
      have HW := Lib.hid (show ∀ f' l' W, TurnedS W2 g r sv room f' l' W → TurnedS w g r sv room f' l' W from fun f' l' W ⟨s', hA', hT', hF'⟩ =>
        ⟨s', hA', (Touch.of_below (S := fp r sv) HB2.out).trans hT' (fun k hk => .inl hk), fun k hk => (hF' k hk).imp id (fun h => Nat.le_trans HB2.out.size h)⟩)
      by_cases q1 : first1 + (l.length : Int) < fr
      · have e1 := Lib.hid (show saveE first l fr = 210 by rw [HE.out, if_pos q1])
        have HFF := Lib.hid (show saveF room first l f = first1 by rw [HF.out, if_neg (by rw [e1.out]; decide), HF1.out, saveE_base (by rw [e1.out]; decide)])
        have HLL := Lib.hid (show saveL room first l f = l by rw [HL.out, if_neg (by rw [e1.out]; decide)])
        have hq : decide (first1 + (l.length : Int) < fr) = true := by simpa using q1
        clear HE HF HL
        go_wp2_with fail
        go_ret
        exact ⟨ret_int e1.out.symm, by rw [HFF.out, HLL.out]; exact HW.out _ _ _ HT3.out⟩
      · have hq : decide (first1 + (l.length : Int) < fr) = false := by simpa using q1
        have Q1 := Lib.hid (show ¬ first1 + (l.length : Int) < fr from q1)
        go_wp2_with fail
        go_quiet ((go_at_call 63; exact Calls.quiet_of_same ((first_any _ r room first1 sv1 l (HA3.out.2.drewN _)).mono fun _ _ h => ⟨h.1, h.2.symm⟩)))
        have HA4 := Lib.hid (HA3.out.drewN nq)
        have HX4 := Lib.hid (HX3.out.drewN nq)
        have cg := HA4.out.c0
        have c0 := HC.out _ HX4.out
        have HT4 := Lib.hid (show TurnedS W2 g r sv room first1 l (W3.drewN nq) from by
          obtain ⟨s', hA', hT', hF'⟩ := HT3.out
          exact ⟨s', hA'.drewN nq, hT'.drewN nq, hF'⟩)
        have HN4 := Lib.hid (show ∀ k, fp r sv1 k → fp r sv k ∨ W2.heap.size ≤ k from HFr.out)
        clear cg' c0' HX3
        generalize W3.drewN nq = W4 at *
        by_cases q2 : fr < first1
        · have e1 := Lib.hid (show saveE first l fr = 90 by rw [HE.out, if_neg (by have := Q1.out; omega), if_pos q2])
          have HFF := Lib.hid (show saveF room first l f = first1 by rw [HF.out, if_neg (by rw [e1.out]; decide), HF1.out, saveE_base (by rw [e1.out]; decide)])
          have HLL := Lib.hid (show saveL room first l f = l by rw [HL.out, if_neg (by rw [e1.out]; decide)])
          have hq2 : decide (fr < first1) = true := by simpa using q2
          clear HE HF HL
          go_wp2_with fail
          go_ret
          exact ⟨ret_int e1.out.symm, by rw [HFF.out, HLL.out]; exact HW.out _ _ _ HT4.out⟩
        · have e1 := Lib.hid (show saveE first l fr = 0 by rw [HE.out, if_neg (by have := Q1.out; omega), if_neg q2])
          have HFF := Lib.hid (show saveF room first l f = putF room first1 (cutL first1 l fr) by rw [HF.out, if_pos e1.out])
          have HLL := Lib.hid (show saveL room first l f = putL room (cutL first1 l fr) (f, sumL (stB f)) by rw [HL.out, if_pos e1.out])
          have hq2 : decide (fr < first1) = false := by simpa using q2
          have pCut := Lib.hid (cut_any W4.drew r room first1 fr sv1 l HA4.out.2.drew b0 b1)
          have hcl : (cutL first1 l fr).length ≤ l.length := by unfold cutL; split <;> (try simp) <;> omega
          have HCL := Lib.hid hcl
          clear HE HF HL hcl
          go_upto_region 7 with fail
          refine wp_region_still_tail 6 (by kernel_rfl) (by kernel_rfl) ?_
          simp only [List.take_succ_cons, List.take_zero, List.drop_succ_cons, List.drop_zero]
          iterate 6 still_step
          refine wpStill_nil ?_
          change wpList _ _ _ _ _ (World.drew _)
          go_wp2_with fail
          refine pCut.out.mono ?_
          rintro e w5 ⟨rfl, ht⟩
          have HT5 := Lib.hid (TurnedS.of (w := W4.drew) (HA4.out.drewN 1) ht)
          have X5 : Blk w5 w.heap.size 47 C := by
            obtain ⟨s', hA', hT', hF'⟩ := ht
            exact Blk.touch (Blk.drew HX4.out) hT' (fun hk => (HN4.out _ hk).elim hne (fun hge => by have := HBX.out; omega))
          have HX5 := Lib.hid X5
          have hsz := LC.size
          clear ht X5 cg c0 pCut
          obtain ⟨sv2, hA5, hT5, hF5⟩ := HT5.out
          have HNF := Lib.hid (show ¬ fp r sv2 w.heap.size from fun hk => (hF5 _ hk).elim (fun h1' => (HN4.out _ h1').elim hne (fun hge => by have := HBX.out; omega)) (fun hge => by have h1' := Blk.lt HX4.out; have h2' : W4.heap.size ≤ w.heap.size := hge; omega))
          have HT6 := Lib.hid hT5
          have HF6 := Lib.hid hF5
          have HA5 := Lib.hid hA5
          have cg5 := hA5.c0
          have hcC : cellsAt w5 w.heap.size = C := cellsAt_blk HX5.out
          have pSum := Lib.hid (fun W => sum_any W f hw)
          unfold stV at pSum
          rw [← LC.eq] at pSum
          generalize sumL (stB f) = sm at *
          obtain ⟨E, LE⟩ := el_of (f, sm)
          have hbd : ∀ W, buildR Tryz.prog (.agg C) (.int .u32 sm) W = .ok (.value (.agg E)) W := fun W => buildR_at W LC LE
          have pPut := Lib.hid (fun W (h : At W r room first1 sv2 (cutL first1 l fr)) => put_any W r room first1 (f, sm) E LE sv2 (cutL first1 l fr) h b0 (by have := HCL.out; omega) (by have := HCL.out; omega) hroom)
          have hS0 : w5.drew.cell? ⟨g, 0, none⟩ = some (.pointer (some ⟨r, 0, none⟩)) ∧ cellsAt w5.drew w.heap.size = C := ⟨cg5, hcC⟩
          clear hA5 hT5 hF5 HT5 cg5 hcC LE
          go_upto_region 8 with fail
          go_region_held3 (fun w' => w'.cell? ⟨g, 0, none⟩ = some (.pointer (some ⟨r, 0, none⟩)) ∧ cellsAt w' w.heap.size = C) (first | exact hS0 | exact ⟨A6.c0, cellsAt_blk X6⟩ | exact ⟨A7.c0, cellsAt_blk X7⟩ | fail)
            (first
              | (go_at_call 66; refine (pSum.out _).mono ?_; rintro e w6 ⟨rfl, b6'⟩; have b6 : Below w5.heap.size w5 w6 := ⟨b6'.os, b6'.tape, b6'.output, b6'.size, b6'.block⟩; have A6 := HA5.out.below b6; have X6 : Blk w6 w.heap.size 47 C := Blk.below HX5.out b6 (Blk.lt HX5.out))
              | (go_at_call 65; refine (pPut.out _ A6.2).mono ?_; rintro e w7 ⟨rfl, t7⟩; obtain ⟨sv3, A7, hT7, hF7⟩ := TurnedS.of A6 t7; have X7 : Blk w7 w.heap.size 47 C := Blk.touch X6 hT7 HNF.out)
              | fail "no arm")
          all_goals
            have TT : TurnedS W4 g r sv1 room (putF room first1 (cutL first1 l fr)) (putL room (cutL first1 l fr) (f, sm)) w7 :=
              ⟨sv3, A7, Touch.trans (w1 := w6) (Touch.trans (w1 := w5) ⟨HT6.out.os, HT6.out.tape, HT6.out.output, HT6.out.size, HT6.out.block⟩ (Touch.of_below (S := fp r sv1) b6) (fun k hk => .inl hk)) hT7 (fun k hk => HF6.out k hk),
                fun k hk => (hF7 k hk).elim (fun h => HF6.out k h) (fun h => .inr (Nat.le_trans (Nat.le_trans HT6.out.size b6.size) h))⟩
            have HTT := Lib.hid TT
            clear TT A7 hT7 hF7 X7 X6 A6 b6 hS0 hbd
            go_wp2_with fail
            go_ret
            exact ⟨ret_int e1.out.symm, by rw [HFF.out, HLL.out]; exact TurnedS.trans (HW.out _ _ _ HT4.out) (fun sv' hA' => by have e := sa_uniq hA' HA4.out; subst e; exact HTT.out)⟩
end Go.Proofs.YtckkpgopddnkiaaGreat.Sav
namespace Go.Proofs.YtckkpgopddnkiaaGreat.Rl
open Go.RowKit Go.Sort Go.Proofs.YtckkpgopddnkiaaGreat.Gm Go.Proofs.YtckkpgopddnkiaaGreat.RingE Go.Proofs.YtckkpgopddnkiaaGreat.Inputq
set_option linter.all false

def upd {α : Type} (f : Nat → α) (i : Nat) (v : α) : Nat → α := fun j => if j = i then v else f j
theorem upd_at {α : Type} (f : Nat → α) (i : Nat) (v : α) : upd f i v i = v := by simp [upd]
theorem upd_ne {α : Type} (f : Nat → α) {i j : Nat} (v : α) (h : ¬ j = i) : upd f i v j = f j := by simp [upd, h]

/-- An engine's numbers that stay. -/
structure Cfg where
  sd : Nat
  lo : Nat
  de : Int
  ah : Int
/-- Where its parts lie. -/
structure SE where
  g : Nat
  sb : Nat
  r : Nat
  sv : Value
  ss : Nat → Inputq.S
/-- What they are. -/
structure P where
  qs : Nat → Q
  b : Int
  l : List NT
  f : F
  ro : Int
  re : Int
  wo : Int

def eA (c : Cfg) (s : SE) (C : Array Value) (ro re wo : Int) : Array Value :=
  ([Value.int .u32 (c.sd : Int), .int .i64 (c.lo : Int), .int .i64 c.de, .int .i64 c.ah, .pointer (some ⟨(s.ss 0).q, 0, none⟩), .pointer (some ⟨(s.ss 1).q, 0, none⟩), .pointer (some ⟨s.sb, 0, none⟩)] ++ (C.toList ++ [Value.int .i64 ro, .int .i64 re, .int .i64 wo])).toArray
section
variable {c : Cfg} {s : SE} {C : Array Value} {ro re wo : Int}
theorem eA_size (h : C.size = 66) : (eA c s C ro re wo).size = 76 := by simp [eA, h]
theorem eA_mid (h : C.size = 66) {j : Nat} (hj : j < 66) : (eA c s C ro re wo)[7 + j]? = C[j]? := by
  unfold eA
  rw [List.getElem?_toArray, List.getElem?_append_right (by simp), List.getElem?_append_left (by simp; omega)]
  simp
theorem eA_end (h : C.size = 66) (j : Nat) : (eA c s C ro re wo)[73 + j]? = ([Value.int .i64 ro, .int .i64 re, .int .i64 wo] : List Value)[j]? := by
  unfold eA
  rw [List.getElem?_toArray, List.getElem?_append_right (by simp; omega), List.getElem?_append_right (by simp; omega)]
  congr 1
  simp [h]
  omega
theorem eA_set73 (h : C.size = 66) (m : Int) : (eA c s C ro re wo).setIfInBounds 73 (.int .i64 m) = eA c s C m re wo := by
  apply Array.ext'
  simp [eA, List.set_append, h]
theorem eA_set74 (h : C.size = 66) (m : Int) : (eA c s C ro re wo).setIfInBounds 74 (.int .i64 m) = eA c s C ro m wo := by
  apply Array.ext'
  simp [eA, List.set_append, h]
theorem eA_set75 (h : C.size = 66) (m : Int) : (eA c s C ro re wo).setIfInBounds 75 (.int .i64 m) = eA c s C ro re m := by
  apply Array.ext'
  simp [eA, List.set_append, h]
theorem setCells_mid {g : Nat} {t : TypeId} : ∀ (L M A B : List Value) (w : World), Blk w g t (A ++ (M ++ B)).toArray → M.length = L.length → Blk (w.setCells g A.length L) g t (A ++ (L ++ B)).toArray
  | [], [], A, B, w, h, _ => h
  | [], m :: M, A, B, w, _, hl => by simp at hl
  | v :: L, [], A, B, w, _, hl => by simp at hl
  | v :: L, m :: M, A, B, w, h, hl => by
    have h1 := Blk.set_ h A.length v
    have e : (A ++ (m :: M ++ B)).toArray.setIfInBounds A.length v = ((A ++ [v]) ++ (M ++ B)).toArray := by
      apply Array.ext'
      simp [List.set_append]
    rw [e] at h1
    have h2 := setCells_mid L M (A ++ [v]) B _ h1 (by simpa using hl)
    rw [List.length_append, List.length_singleton, show A ++ [v] ++ (L ++ B) = A ++ (v :: L ++ B) by simp] at h2
    exact h2
end

theorem idx0 (w : World) (a b : Option Addr) : (Instr.index 75 (.agg #[.pointer a, .pointer b]) (.int .i64 0)).run Tryz.prog w = .ok (.pointer a) w := by kernel_rfl
theorem idx1 (w : World) (a b : Option Addr) : (Instr.index 75 (.agg #[.pointer a, .pointer b]) (.int .i64 1)).run Tryz.prog w = .ok (.pointer b) w := by kernel_rfl

/-! ### Whose blocks -/
theorem q_kind {w : World} {s : Inputq.S} {x : Q} (h : QAt w s x) {k : Nat} (hk : fpQ s k) : ∃ cs t, w.heap[k]? = some (.cells cs t (0, 0)) ∧ (t = 107 ∨ t = 125 ∨ t = 31) := by
  have ring : ∀ {r : Nat} {room first : Int} {sv : Value} {l : List Int}, RingInput.At w r room first sv l → RingInput.fp r sv k → ∃ cs t, w.heap[k]? = some (.cells cs t (0, 0)) ∧ (t = 107 ∨ t = 125 ∨ t = 31) := by
    intro r room first sv l h hk
    rcases hk with rfl | e
    · exact ⟨_, _, h.1, .inr (.inl rfl)⟩
    · rcases h.2.2 with ⟨rfl, _⟩ | ⟨g', cap, cur, rfl, hh, _⟩
      · simp [Value.ownBlock] at e
      · simp [Value.ownBlock] at e
        subst e
        exact ⟨_, _, hh, .inr (.inr rfl)⟩
  rcases hk with rfl | e | e
  · exact ⟨_, _, h.1, .inl rfl⟩
  · exact ring h.2.1 e
  · exact ring h.2.2.1 e
theorem s_kind {w : World} {sb r : Nat} {room first : Int} {sv : Value} {l : List NT} (h : Sav.SA w sb r room first sv l) {k : Nat} (hk : k = sb ∨ RingE.fp r sv k) : ∃ cs t, w.heap[k]? = some (.cells cs t (0, 0)) ∧ (t = 102 ∨ t = 123 ∨ t = 98) := by
  rcases hk with rfl | rfl | e
  · exact ⟨_, _, h.1, .inl rfl⟩
  · exact ⟨_, _, h.2.1, .inr (.inl rfl)⟩
  · rcases h.2.2.2 with ⟨rfl, _⟩ | ⟨g', cap, cur, rfl, hh, _⟩
    · simp [Value.ownBlock] at e
    · simp [Value.ownBlock] at e
      subst e
      exact ⟨_, _, hh, .inr (.inr rfl)⟩

/-- An engine in memory. -/
structure EAt (w : World) (c : Cfg) (s : SE) (p : P) (C : Array Value) : Prop where
  st : Let C p.f
  blk : Blk w s.g 78 (eA c s C p.ro p.re p.wo)
  qa : ∀ i, i < 2 → QAt w (s.ss i) (p.qs i)
  sa : Sav.SA w s.sb s.r 64 p.b s.sv p.l
  ap : ∀ k, fpQ (s.ss 0) k → ¬ fpQ (s.ss 1) k
def fpE (s : SE) : Nat → Prop := fun k => k = s.g ∨ (fpQ (s.ss 0) k ∨ fpQ (s.ss 1) k) ∨ k = s.sb ∨ RingE.fp s.r s.sv k
theorem fpE_q {s : SE} {i k : Nat} (hi : i < 2) (h : fpQ (s.ss i) k) : fpE s k := by
  obtain rfl | rfl : i = 0 ∨ i = 1 := by omega
  · exact .inr (.inl (.inl h))
  · exact .inr (.inl (.inr h))
section
variable {S : Nat → Prop} {w w' : World} {c : Cfg} {s : SE} {p : P} {C : Array Value}
theorem EAt.lt (h : EAt w c s p C) : ∀ k, fpE s k → k < w.heap.size := by
  rintro k (rfl | (a | a) | rfl | a)
  · exact h.blk.lt
  · exact (h.qa 0 (by omega)).lt k a
  · exact (h.qa 1 (by omega)).lt k a
  · exact Blk.lt h.sa.1
  · exact h.sa.2.lt k a
theorem EAt.g_q (h : EAt w c s p C) {i : Nat} (hi : i < 2) : ¬ fpQ (s.ss i) s.g := fun hk => by
  obtain ⟨cs, t, e, ht⟩ := q_kind (h.qa i hi) hk
  have hb := h.blk
  unfold Blk at hb
  rw [hb] at e
  simp only [Option.some.injEq, Obj.cells.injEq] at e
  obtain ⟨-, rfl, -⟩ := e
  revert ht
  decide
theorem EAt.g_s (h : EAt w c s p C) : ¬ (s.g = s.sb ∨ RingE.fp s.r s.sv s.g) := fun hk => by
  obtain ⟨cs, t, e, ht⟩ := s_kind h.sa hk
  have hb := h.blk
  unfold Blk at hb
  rw [hb] at e
  simp only [Option.some.injEq, Obj.cells.injEq] at e
  obtain ⟨-, rfl, -⟩ := e
  revert ht
  decide
theorem EAt.q_s (h : EAt w c s p C) {i k : Nat} (hi : i < 2) (hq : fpQ (s.ss i) k) : ¬ (k = s.sb ∨ RingE.fp s.r s.sv k) := fun hk => by
  obtain ⟨cs, t, e, ht⟩ := s_kind h.sa hk
  obtain ⟨cs', t', e', ht'⟩ := q_kind (h.qa i hi) hq
  rw [e] at e'
  simp only [Option.some.injEq, Obj.cells.injEq] at e'
  obtain ⟨-, rfl, -⟩ := e'
  rcases ht with rfl | rfl | rfl <;> revert ht' <;> decide
theorem EAt.qq (h : EAt w c s p C) {i j k : Nat} (hi : i < 2) (hj : j < 2) (hij : ¬ i = j) (h1 : fpQ (s.ss i) k) : ¬ fpQ (s.ss j) k := by
  obtain ⟨rfl, rfl⟩ | ⟨rfl, rfl⟩ : i = 0 ∧ j = 1 ∨ i = 1 ∧ j = 0 := by omega
  · exact h.ap k h1
  · exact fun h2 => h.ap k h2 h1
theorem EAt.touch (h : EAt w c s p C) (ht : Touch S w w') (hS : ∀ k, fpE s k → ¬ S k) : EAt w' c s p C :=
  ⟨h.st, h.blk.touch ht (hS _ (.inl rfl)), fun i hi => (h.qa i hi).touch ht (fun k hk => hS k (fpE_q hi hk)), ⟨Blk.touch h.sa.1 ht (hS _ (.inr (.inr (.inl rfl)))), ⟨Blk.touch h.sa.2.1 ht (hS _ (.inr (.inr (.inr (.inl rfl))))), h.sa.2.2.touch ht (fun k hk => hS k (.inr (.inr (.inr (.inr hk)))))⟩⟩, h.ap⟩
theorem EAt.below (h : EAt w c s p C) (hb : Below w.heap.size w w') : EAt w' c s p C := h.touch (S := noB) ⟨hb.os, hb.tape, hb.output, hb.size, fun k hk _ => hb.block k hk⟩ (fun _ _ h => h)
theorem EAt.drewN (h : EAt w c s p C) (n : Nat) : EAt (w.drewN n) c s p C := h.below (below_drewN (Below.refl _ w) n)
theorem EAt.drew (h : EAt w c s p C) : EAt w.drew c s p C := h.below (Below.refl _ w).drew
theorem EAt.alloc (h : EAt w c s p C) (o : Obj) : EAt (w.alloc o) c s p C := h.below ((Below.refl _ w).alloc (Nat.le_refl _) o)
theorem EAt.c1 (h : EAt w c s p C) : w.cell? ⟨s.g, 1, none⟩ = some (.int .i64 (c.lo : Int)) := h.blk.cell 1
theorem EAt.c3 (h : EAt w c s p C) : w.cell? ⟨s.g, 3, none⟩ = some (.int .i64 c.ah) := h.blk.cell 3
theorem EAt.c4 (h : EAt w c s p C) : w.cell? ⟨s.g, 4, none⟩ = some (.pointer (some ⟨(s.ss 0).q, 0, none⟩)) := h.blk.cell 4
theorem EAt.c5 (h : EAt w c s p C) : w.cell? ⟨s.g, 5, none⟩ = some (.pointer (some ⟨(s.ss 1).q, 0, none⟩)) := h.blk.cell 5
theorem EAt.c6 (h : EAt w c s p C) : w.cell? ⟨s.g, 6, none⟩ = some (.pointer (some ⟨s.sb, 0, none⟩)) := h.blk.cell 6
theorem EAt.c7 (h : EAt w c s p C) : w.cell? ⟨s.g, 7, none⟩ = some (.int .i64 (p.f 0)) := by
  have h0 : C[0]? = some (.int .i64 (p.f 0)) := by rw [h.st.eq, stA_get p.f (by omega)]; rfl
  exact (h.blk.cell 7).trans ((eA_mid h.st.size (j := 0) (by omega)).trans h0)
theorem EAt.c73 (h : EAt w c s p C) : w.cell? ⟨s.g, 73, none⟩ = some (.int .i64 p.ro) := (h.blk.cell 73).trans (eA_end h.st.size 0)
theorem EAt.c74 (h : EAt w c s p C) : w.cell? ⟨s.g, 74, none⟩ = some (.int .i64 p.re) := (h.blk.cell 74).trans (eA_end h.st.size 1)
theorem EAt.c75 (h : EAt w c s p C) : w.cell? ⟨s.g, 75, none⟩ = some (.int .i64 p.wo) := (h.blk.cell 75).trans (eA_end h.st.size 2)
theorem EAt.fr (h : EAt w c s p C) (j : Nat) : w.frozen? ⟨s.g, j, none⟩ = false := h.blk.frozen j
theorem EAt.mid (h : EAt w c s p C) : w.rangeAt s.g 7 C.toList := fun j v hv => by
  have hj : j < 66 := by have := (List.getElem?_eq_some_iff.1 hv).1; have := h.st.size; simp at *; omega
  rw [h.blk.cell (7 + j), eA_mid h.st.size hj]
  simpa using hv
theorem EAt.there (h : EAt w c s p C) : w.there s.g 7 66 := fun j hj => by
  have hc : j < C.toList.length := by have := h.st.size; simp; omega
  exact ⟨by rw [h.mid j _ (List.getElem?_eq_getElem hc)]; rfl, h.fr _⟩

/-- The same places but for the lists' own blocks. -/
def Same (s' s : SE) : Prop := s'.g = s.g ∧ s'.sb = s.sb ∧ ∀ j, (s'.ss j).q = (s.ss j).q
theorem Same.refl (s : SE) : Same s s := ⟨rfl, rfl, fun _ => rfl⟩
theorem Same.trans {s s1 s2 : SE} (h2 : Same s2 s1) (h1 : Same s1 s) : Same s2 s := ⟨h2.1.trans h1.1, h2.2.1.trans h1.2.1, fun j => (h2.2.2 j).trans (h1.2.2 j)⟩
/-- What a call leaves. -/
def TurnedE (w : World) (c : Cfg) (s : SE) (p' : P) (w' : World) : Prop :=
  ∃ s' C', Same s' s ∧ EAt w' c s' p' C' ∧ Touch (fpE s) w w' ∧ ∀ k, fpE s' k → fpE s k ∨ w.heap.size ≤ k
theorem TurnedE.refl (h : EAt w c s p C) (hb : Below w.heap.size w w') : TurnedE w c s p w' := ⟨s, C, Same.refl s, h.below hb, Touch.of_below hb, fun _ hk => .inl hk⟩
theorem TurnedE.trans {p1 p2 : P} {w1 w2 : World} (h : TurnedE w c s p1 w1) (k : ∀ s1 C1, Same s1 s → EAt w1 c s1 p1 C1 → TurnedE w1 c s1 p2 w2) : TurnedE w c s p2 w2 := by
  obtain ⟨s1, C1, e1, h1, T1, F1⟩ := h
  obtain ⟨s2, C2, e2, h2, T2, F2⟩ := k s1 C1 e1 h1
  refine ⟨s2, C2, e2.trans e1, h2, T1.trans T2 F1, fun k hk => ?_⟩
  rcases F2 k hk with a | a
  · exact F1 k a
  · exact .inr (Nat.le_trans T1.size a)
/-- One queue has turned. -/
theorem EAt.queue {i : Nat} {x' : Q} (h : EAt w c s p C) (hi : i < 2) (ht : TurnedQ w (s.ss i) x' w') :
    ∃ s', s'.g = s.g ∧ s'.sb = s.sb ∧ (∀ j, (s'.ss j).q = (s.ss j).q) ∧ EAt w' c s' { p with qs := upd p.qs i x' } C ∧ Touch (fpE s) w w' ∧ ∀ k, fpE s' k → fpE s k ∨ w.heap.size ≤ k := by
  obtain ⟨s1, e1, h1, T1, F1⟩ := ht
  have hq : ∀ j, (upd s.ss i s1 j).q = (s.ss j).q := fun j => by
    by_cases e : j = i
    · subst e; rw [upd_at, e1]
    · rw [upd_ne _ _ e]
  have hkeep : ∀ j, j < 2 → ∀ k, fpQ (upd s.ss i s1 j) k → fpQ (s.ss j) k ∨ w.heap.size ≤ k := fun j hj k hk => by
    by_cases e : j = i
    · subst e; rw [upd_at] at hk; exact F1 k hk
    · rw [upd_ne _ _ e] at hk; exact .inl hk
  have hold : ∀ j, j < 2 → ¬ j = i → ∀ k, fpQ (upd s.ss i s1 j) k → fpQ (s.ss j) k := fun j hj e k hk => by rw [upd_ne _ _ e] at hk; exact hk
  refine ⟨{ s with ss := upd s.ss i s1 }, rfl, rfl, hq, ⟨h.st, ?_, fun j hj => ?_, ?_, ?_⟩, T1.mono (fun k hk => .inl (fpE_q hi hk)), fun k hk => ?_⟩
  · have e : eA c { s with ss := upd s.ss i s1 } C p.ro p.re p.wo = eA c s C p.ro p.re p.wo := by
      unfold eA
      simp only [hq]
    show Blk w' s.g _ (eA c { s with ss := upd s.ss i s1 } C p.ro p.re p.wo)
    rw [e]
    exact h.blk.touch T1 (h.g_q hi)
  · show QAt w' (upd s.ss i s1 j) (upd p.qs i x' j)
    by_cases e : j = i
    · subst e; rw [upd_at, upd_at]; exact h1
    · rw [upd_ne _ _ e, upd_ne _ _ e]
      exact (h.qa j hj).touch T1 (fun k hk => h.qq hj hi e hk)
  · have hn : ∀ k, (k = s.sb ∨ RingE.fp s.r s.sv k) → ¬ fpQ (s.ss i) k := fun k hk hq => h.q_s hi hq hk
    exact ⟨Blk.touch h.sa.1 T1 (hn _ (.inl rfl)), ⟨Blk.touch h.sa.2.1 T1 (hn _ (.inr (.inl rfl))), h.sa.2.2.touch T1 (fun k hk => hn k (.inr (.inr hk)))⟩⟩
  · intro k h0 h1'
    have l0 := hkeep 0 (by omega) k h0
    have l1 := hkeep 1 (by omega) k h1'
    by_cases e : i = 0
    · subst e
      have o1 := hold 1 (by omega) (by omega) k h1'
      rcases l0 with a | a
      · exact h.ap k a o1
      · have := (h.qa 1 (by omega)).lt k o1; omega
    · have e1' : i = 1 := by omega
      subst e1'
      have o0 := hold 0 (by omega) (by omega) k h0
      rcases l1 with a | a
      · exact h.ap k o0 a
      · have := (h.qa 0 (by omega)).lt k o0; omega
  · rcases hk with a | (a | a) | a
    · exact .inl (.inl a)
    · exact (hkeep 0 (by omega) k a).imp (fun a => .inr (.inl (.inl a))) id
    · exact (hkeep 1 (by omega) k a).imp (fun a => .inr (.inl (.inr a))) id
    · exact .inl (.inr (.inr a))
/-- The saved states have turned. -/
theorem EAt.saved {b' : Int} {l' : List NT} (h : EAt w c s p C) (ht : Sav.TurnedS w s.sb s.r s.sv 64 b' l' w') :
    ∃ s', s'.g = s.g ∧ s'.sb = s.sb ∧ s'.ss = s.ss ∧ EAt w' c s' { p with b := b', l := l' } C ∧ Touch (fpE s) w w' ∧ ∀ k, fpE s' k → fpE s k ∨ w.heap.size ≤ k := by
  obtain ⟨sv', hA, T1, F1⟩ := ht
  refine ⟨{ s with sv := sv' }, rfl, rfl, rfl, ⟨h.st, ?_, fun j hj => ?_, hA, h.ap⟩, T1.mono (fun k hk => .inl (.inr (.inr (.inr hk)))), fun k hk => ?_⟩
  · have e : eA c { s with sv := sv' } C p.ro p.re p.wo = eA c s C p.ro p.re p.wo := rfl
    show Blk w' s.g _ (eA c { s with sv := sv' } C p.ro p.re p.wo)
    rw [e]
    exact h.blk.touch T1 (fun hk => h.g_s (.inr hk))
  · exact (h.qa j hj).touch T1 (fun k hk hk2 => h.q_s hj hk (.inr hk2))
  · rcases hk with a | a | a | a
    · exact .inl (.inl a)
    · exact .inl (.inr (.inl a))
    · exact .inl (.inr (.inr (.inl a)))
    · exact (F1 k a).imp (fun a => .inr (.inr (.inr a))) id
/-- A store in the engine's own block. -/
theorem EAt.own {p' : P} {C' : Array Value} (h : EAt w c s p C) (hT : Touch (fun k => k = s.g) w w') (hL : Let C' p'.f) (hb : Blk w' s.g 78 (eA c s C' p'.ro p'.re p'.wo)) (hq : p'.qs = p.qs) (h1 : p'.b = p.b) (h2 : p'.l = p.l) : EAt w' c s p' C' := by
  refine ⟨hL, hb, fun i hi => ?_, ?_, h.ap⟩
  · rw [hq]
    exact (h.qa i hi).touch hT (fun k hk e => h.g_q hi (e ▸ hk))
  · rw [h1, h2]
    have hn : ∀ k, (k = s.sb ∨ RingE.fp s.r s.sv k) → ¬ k = s.g := fun k hk e => h.g_s (e ▸ hk)
    exact ⟨Blk.touch h.sa.1 hT (hn _ (.inl rfl)), ⟨Blk.touch h.sa.2.1 hT (hn _ (.inr (.inl rfl))), h.sa.2.2.touch hT (fun k hk => hn k (.inr (.inr hk)))⟩⟩
theorem touch_g (w : World) (g i : Nat) (v : Value) : Touch (fun k => k = g) w (w.setCell ⟨g, i, none⟩ v) := (Touch.refl (fun k => k = g) w).setCell (p := ⟨g, i, none⟩) (.inl rfl) _
theorem EAt.set73 (h : EAt w c s p C) (m : Int) : EAt (w.setCell ⟨s.g, 73, none⟩ (.int .i64 m)) c s { p with ro := m } C :=
  h.own (touch_g w s.g 73 _) h.st (by have := Blk.set_ h.blk 73 (.int .i64 m); rw [eA_set73 h.st.size] at this; exact this) rfl rfl rfl
theorem EAt.set74 (h : EAt w c s p C) (m : Int) : EAt (w.setCell ⟨s.g, 74, none⟩ (.int .i64 m)) c s { p with re := m } C :=
  h.own (touch_g w s.g 74 _) h.st (by have := Blk.set_ h.blk 74 (.int .i64 m); rw [eA_set74 h.st.size] at this; exact this) rfl rfl rfl
theorem EAt.set75 (h : EAt w c s p C) (m : Int) : EAt (w.setCell ⟨s.g, 75, none⟩ (.int .i64 m)) c s { p with wo := m } C :=
  h.own (touch_g w s.g 75 _) h.st (by have := Blk.set_ h.blk 75 (.int .i64 m); rw [eA_set75 h.st.size] at this; exact this) rfl rfl rfl
theorem EAt.stored {C' : Array Value} {f' : F} (h : EAt w c s p C) (hC : Let C' f') : EAt (w.setCells s.g 7 C'.toList) c s { p with f := f' } C' ∧ Touch (fun k => k = s.g) w (w.setCells s.g 7 C'.toList) := by
  have hT : Touch (fun k => k = s.g) w (w.setCells s.g 7 C'.toList) := touch_setCells (S := fun k => k = s.g) (Touch.refl _ _) _ (.inl rfl) _ _
  refine ⟨h.own hT hC ?_ rfl rfl rfl, hT⟩
  exact setCells_mid C'.toList C.toList [.int .u32 (c.sd : Int), .int .i64 (c.lo : Int), .int .i64 c.de, .int .i64 c.ah, .pointer (some ⟨(s.ss 0).q, 0, none⟩), .pointer (some ⟨(s.ss 1).q, 0, none⟩), .pointer (some ⟨s.sb, 0, none⟩)] _ w h.blk (by have := h.st.size; have := hC.size; simp; omega)
end
end Go.Proofs.YtckkpgopddnkiaaGreat.Rl
namespace Go.Proofs.YtckkpgopddnkiaaGreat.Rl
open Go.RowKit Go.Sort Go.Proofs.YtckkpgopddnkiaaGreat.Gm Go.Proofs.YtckkpgopddnkiaaGreat.RingE Go.Proofs.YtckkpgopddnkiaaGreat.Inputq
set_option linter.all false

attribute [local go_sem] idx0 idx1
def minI (a b : Int) : Int := if b < a then b else a
theorem minI_le (a b : Int) : minI a b ≤ a ∧ minI a b ≤ b ∧ (minI a b = a ∨ minI a b = b) := by unfold minI; split <;> omega
def nx (p : P) (i : Nat) : Int := (p.qs i).kf + (p.qs i).kl.length
def confP (p : P) : Int := minI (nx p 0) (nx p 1)
def sureN (p : P) : Nat → Int
  | 0 => minI (confP p) (p.f 0)
  | i + 1 => if 0 ≤ (p.qs i).wrong then minI (sureN p i) (p.qs i).wrong else sureN p i
def sureP (p : P) : Int := sureN p 2

structure OkE (c : Cfg) (p : P) : Prop where
  lo : c.lo < 2
  ah : 0 ≤ c.ah ∧ c.ah ≤ 16
  q : ∀ i, i < 2 → Ok (p.qs i)
  f0 : 0 ≤ p.f 0
  f1 : p.f 0 ≤ 1000000
  b0 : 0 ≤ p.b
  bl : p.b + p.l.length ≤ 1000000
  ll : p.l.length ≤ 64
  n1 : ∀ i, i < 2 → nx p i ≤ 1000000
  w1 : ∀ i, i < 2 → -1 ≤ (p.qs i).wrong ∧ (p.qs i).wrong ≤ 1000000
theorem OkE.nx0 {c : Cfg} {p : P} (h : OkE c p) {i : Nat} (hi : i < 2) : 0 ≤ nx p i := by
  have := (h.q i hi).1
  unfold nx; omega
theorem confP_lo {p : P} (lo : Nat) (h : lo < 2) : minI (nx p lo) (nx p (1 - lo)) = confP p := by
  unfold confP minI
  obtain rfl | rfl : lo = 0 ∨ lo = 1 := by omega
  · rfl
  · simp only [Nat.sub_self]
    split <;> split <;> omega

set_option maxRecDepth 100000 in
set_option maxHeartbeats 1000000 in
theorem frame_any (w : World) (g : Nat) (v : Int) (h : w.cell? ⟨g, 7, none⟩ = some (.int .i64 v)) :
    Calls Tryz.prog 42 #[.pointer (some ⟨g, 0, none⟩)] w fun e w' => e = .returned (.int .i64 v) ∧ w' = w := by
  go_enter Tryz.func42, Tryz.ntmps42
  go_wp2
  go_ret
  exact ⟨rfl, rfl⟩
set_option maxRecDepth 100000 in
set_option maxHeartbeats 1000000 in
theorem rolls_any (w : World) (g : Nat) (v : Int) (h : w.cell? ⟨g, 73, none⟩ = some (.int .i64 v)) :
    Calls Tryz.prog 17 #[.pointer (some ⟨g, 0, none⟩)] w fun e w' => e = .returned (.int .i64 v) ∧ w' = w := by
  go_enter Tryz.func17, Tryz.ntmps17
  go_wp2
  go_ret
  exact ⟨rfl, rfl⟩

set_option maxRecDepth 100000 in
set_option maxHeartbeats 1000000 in
theorem local_any (w : World) (c : Cfg) (s : SE) (p : P) (C : Array Value) (h : EAt w c s p C) (hlo : c.lo < 2) :
    Calls Tryz.prog 36 #[.pointer (some ⟨s.g, 0, none⟩)] w fun e w' => e = .returned (.pointer (some ⟨(s.ss c.lo).q, 0, none⟩)) ∧ ∃ n, w' = w.drewN n := by
  have c1 := h.c1
  have c4 := h.c4
  have c5 := h.c5
  clear h
  obtain ⟨sd, lo, de, ah⟩ := c
  dsimp only at c1 hlo
  obtain rfl | rfl : lo = 0 ∨ lo = 1 := by omega
  · go_enter Tryz.func36, Tryz.ntmps36
    go_wp2_with fail
    go_quiet (fail)
    go_wp2_with fail
    go_ret
    exact ⟨rfl, _, rfl⟩
  · go_enter Tryz.func36, Tryz.ntmps36
    go_wp2_with fail
    go_quiet (fail)
    go_wp2_with fail
    go_ret
    exact ⟨rfl, _, rfl⟩
set_option maxRecDepth 100000 in
set_option maxHeartbeats 1000000 in
theorem remote_any (w : World) (c : Cfg) (s : SE) (p : P) (C : Array Value) (h : EAt w c s p C) (hlo : c.lo < 2) :
    Calls Tryz.prog 40 #[.pointer (some ⟨s.g, 0, none⟩)] w fun e w' => e = .returned (.pointer (some ⟨(s.ss (1 - c.lo)).q, 0, none⟩)) ∧ ∃ n, w' = w.drewN n := by
  have c1 := h.c1
  have c4 := h.c4
  have c5 := h.c5
  clear h
  obtain ⟨sd, lo, de, ah⟩ := c
  dsimp only at c1 hlo
  obtain rfl | rfl : lo = 0 ∨ lo = 1 := by omega
  · go_enter Tryz.func40, Tryz.ntmps40
    go_wp2_with fail
    go_quiet (fail)
    go_wp2_with fail
    go_ret
    exact ⟨rfl, _, rfl⟩
  · go_enter Tryz.func40, Tryz.ntmps40
    go_wp2_with fail
    go_quiet (fail)
    go_wp2_with fail
    go_ret
    exact ⟨rfl, _, rfl⟩

set_option maxRecDepth 100000 in
set_option maxHeartbeats 1000000 in
theorem conf_any (w : World) (c : Cfg) (s : SE) (p : P) (C : Array Value) (h : EAt w c s p C) (ok : OkE c p) :
    Calls Tryz.prog 47 #[.pointer (some ⟨s.g, 0, none⟩)] w fun e w' => e = .returned (.int .i64 (confP p)) ∧ ∃ n, w' = w.drewN n := by
  have pL := Lib.hid (fun j => local_any (w.drewN j) c s p C (h.drewN j) ok.lo)
  have pR := Lib.hid (fun j => remote_any (w.drewN j) c s p C (h.drewN j) ok.lo)
  have lo := ok.lo
  have pN := Lib.hid (fun i (hi : i < 2) j => Inputq.next_any (w.drewN j) (s.ss i) (p.qs i) ((h.drewN j).qa i hi) (ok.q i hi))
  obtain ⟨a, ha⟩ : ∃ a, nx p c.lo = a := ⟨_, rfl⟩
  obtain ⟨b, hb⟩ : ∃ b, nx p (1 - c.lo) = b := ⟨_, rfl⟩
  have hm := confP_lo (p := p) c.lo ok.lo
  rw [ha, hb] at hm
  have hmin : (if b < a then b else a) = confP p := hm
  obtain ⟨m, hmm⟩ : ∃ m, confP p = m := ⟨_, rfl⟩
  rw [hmm] at hmin ⊢
  have pA := Lib.hid (fun j => pN.out c.lo lo j)
  have pB := Lib.hid (fun j => pN.out (1 - c.lo) (by omega) j)
  unfold nx at ha hb
  rw [ha] at pA
  rw [hb] at pB
  clear pN ha hb hm hmm h ok
  go_enter Tryz.func47, Tryz.ntmps47
  go_wp2_with fail
  refine (pL.out 0).mono ?_
  rintro e w1 ⟨rfl, n1, rfl⟩
  go_wp2_with fail
  refine (pA.out _).mono ?_
  rintro e w1 ⟨rfl, n2, rfl⟩
  go_wp2_with fail
  refine (pR.out _).mono ?_
  rintro e w1 ⟨rfl, n3, rfl⟩
  go_wp2_with fail
  refine (pB.out _).mono ?_
  rintro e w1 ⟨rfl, n4, rfl⟩
  go_wp2_with fail
  go_ret
  exact ⟨rfl, _, rfl⟩

theorem sure_le (p : P) : sureP p ≤ p.f 0 ∧ sureP p ≤ nx p 0 ∧ sureP p ≤ nx p 1 := by
  have a := minI_le (confP p) (p.f 0)
  have b := minI_le (nx p 0) (nx p 1)
  have c := minI_le (sureN p 0) (p.qs 0).wrong
  have d := minI_le (sureN p 1) (p.qs 1).wrong
  have e0 : sureN p 0 = minI (confP p) (p.f 0) := rfl
  have e1 : sureN p 1 = if 0 ≤ (p.qs 0).wrong then minI (sureN p 0) (p.qs 0).wrong else sureN p 0 := rfl
  have e2 : sureP p = if 0 ≤ (p.qs 1).wrong then minI (sureN p 1) (p.qs 1).wrong else sureN p 1 := rfl
  have ec : confP p = minI (nx p 0) (nx p 1) := rfl
  split at e1 <;> split at e2 <;> omega
theorem sure_succ (p : P) (i : Nat) : sureN p (i + 1) = if 0 ≤ (p.qs i).wrong then minI (sureN p i) (p.qs i).wrong else sureN p i := rfl

set_option maxRecDepth 100000 in
set_option maxHeartbeats 4000000 in
theorem sure_any (w : World) (c : Cfg) (s : SE) (p : P) (C : Array Value) (h : EAt w c s p C) (ok : OkE c p) :
    Calls Tryz.prog 24 #[.pointer (some ⟨s.g, 0, none⟩)] w fun e w' => e = .returned (.int .i64 (sureP p)) ∧ ∃ n, w' = w.drewN n := by
  have pC := Lib.hid (conf_any w c s p C h ok)
  have pF := Lib.hid (fun j => frame_any (w.drewN j) s.g (p.f 0) (h.drewN j).c7)
  have pW := Lib.hid (fun i (hi : i < 2) j => Inputq.wrong_any (w.drewN j) (s.ss i) (p.qs i) ((h.drewN j).qa i hi))
  obtain ⟨m, hm⟩ : ∃ m, (if p.f 0 < confP p then p.f 0 else confP p) = m := ⟨_, rfl⟩
  have HM := Lib.hid (show sureN p 0 = m from hm)
  have h4 := h.c4
  have h5 := h.c5
  have HS := Lib.hid (sure_succ p)
  have HP := Lib.hid (show sureP p = sureN p 2 from rfl)
  obtain ⟨fr, hfr⟩ : ∃ fr, p.f 0 = fr := ⟨_, rfl⟩
  obtain ⟨cf, hcf⟩ : ∃ cf, confP p = cf := ⟨_, rfl⟩
  rw [hfr] at pF hm
  rw [hcf] at pC hm
  clear hfr hcf h
  go_enter Tryz.func24, Tryz.ntmps24
  go_wp2_with fail
  refine pC.out.mono ?_
  rintro e w1 ⟨rfl, n1, rfl⟩
  go_wp2_with fail
  refine (pF.out _).mono ?_
  rintro e w1 ⟨rfl, rfl⟩
  go_wp2_with fail
  rw [← HM.out]
  clear hm pC pF
  go_loopw [16, 3] (fun iv nv wr => ∃ i : Nat, i ≤ 2 ∧ iv = .int .i64 (i : Int) ∧ nv = .int .i64 (sureN p i) ∧ wr = w.drewN n1) (fun iv _ _ => 2 - (intOf iv).toNat)
  case atStart => exact ⟨0, by omega, rfl, rfl, rfl⟩
  case round =>
    obtain ⟨i, hi, rfl, rfl, rfl⟩ := hrel
    obtain rfl | rfl | rfl : i = 0 ∨ i = 1 ∨ i = 2 := by omega
    · rw [show ((0 : Nat) : Int) = 0 from rfl]
      have pw := Lib.hid (pW.out 0 (by omega) n1)
      have e := HS.out 0
      obtain ⟨v, hv⟩ : ∃ v, (p.qs 0).wrong = v := ⟨_, rfl⟩
      obtain ⟨a, ha⟩ : ∃ a, sureN p 0 = a := ⟨_, rfl⟩
      rw [hv] at pw e
      rw [ha] at e ⊢
      by_cases h0 : 0 ≤ v
      · rw [if_pos h0] at e
        have E : (if v < a then v else a) = sureN p 1 := e.symm
        clear e hv ha HM
        go_wp2_with fail
        refine pw.out.mono ?_
        rintro e w2 ⟨rfl, rfl⟩
        go_wp2_with fail
        go_roundw
        case rel => exact ⟨1, by omega, rfl, rfl, trivial⟩
        case measure => simp [intOf]
      · rw [if_neg h0] at e
        have E := Lib.hid (show a = sureN p 1 from e.symm)
        clear e hv ha HM
        go_wp2_with fail
        refine pw.out.mono ?_
        rintro e w2 ⟨rfl, rfl⟩
        go_wp2_with fail
        go_roundw
        case rel => exact ⟨1, by omega, rfl, by rw [E.out], trivial⟩
        case measure => simp [intOf]
    · rw [show ((1 : Nat) : Int) = 1 from rfl]
      have pw := Lib.hid (pW.out 1 (by omega) n1)
      have e := HS.out 1
      obtain ⟨v, hv⟩ : ∃ v, (p.qs 1).wrong = v := ⟨_, rfl⟩
      obtain ⟨a, ha⟩ : ∃ a, sureN p 1 = a := ⟨_, rfl⟩
      rw [hv] at pw e
      rw [ha] at e ⊢
      by_cases h0 : 0 ≤ v
      · rw [if_pos h0] at e
        have E : (if v < a then v else a) = sureN p 2 := e.symm
        clear e hv ha HM
        go_wp2_with fail
        refine pw.out.mono ?_
        rintro e w2 ⟨rfl, rfl⟩
        go_wp2_with fail
        go_roundw
        case rel => exact ⟨2, by omega, rfl, rfl, trivial⟩
        case measure => simp [intOf]
      · rw [if_neg h0] at e
        have E := Lib.hid (show a = sureN p 2 from e.symm)
        clear e hv ha HM
        go_wp2_with fail
        refine pw.out.mono ?_
        rintro e w2 ⟨rfl, rfl⟩
        go_wp2_with fail
        go_roundw
        case rel => exact ⟨2, by omega, rfl, by rw [E.out], trivial⟩
        case measure => simp [intOf]
    · rw [show ((2 : Nat) : Int) = 2 from rfl]
      rw [← HP.out]
      go_wp2_with fail
      go_ret
      exact ⟨rfl, _, rfl⟩

def mayE (c : Cfg) (p : P) : Int := if c.ah ≤ p.f 0 - confP p then 250 else 0
set_option maxRecDepth 100000 in
set_option maxHeartbeats 4000000 in
theorem may_any (w : World) (c : Cfg) (s : SE) (p : P) (C : Array Value) (h : EAt w c s p C) (ok : OkE c p) :
    Calls Tryz.prog 34 #[.pointer (some ⟨s.g, 0, none⟩)] w fun e w' => e = .returned (.int .i64 (mayE c p)) ∧ ∃ n, w' = w.drewN n := by
  have pC := Lib.hid (fun j => conf_any (w.drewN j) c s p C (h.drewN j) ok)
  have pF := Lib.hid (fun j => frame_any (w.drewN j) s.g (p.f 0) (h.drewN j).c7)
  have c3 := h.c3
  have hcl := minI_le (nx p 0) (nx p 1)
  have hn0 := ok.n1 0 (by omega)
  have hx0 := ok.nx0 (i := 0) (by omega)
  have hx1 := ok.nx0 (i := 1) (by omega)
  have hf0 := ok.f0
  have hf1 := ok.f1
  have HM := Lib.hid (show mayE c p = if c.ah ≤ p.f 0 - confP p then 250 else 0 from rfl)
  unfold confP at *
  obtain ⟨fr, hfr⟩ : ∃ fr, p.f 0 = fr := ⟨_, rfl⟩
  obtain ⟨cf, hcf⟩ : ∃ cf, minI (nx p 0) (nx p 1) = cf := ⟨_, rfl⟩
  rw [hfr] at pF HM hf0 hf1
  rw [hcf] at pC HM hcl
  have hw : IntKind.i64.wrap (fr - cf) = fr - cf := IntWalk.i64_in _ (by omega)
  clear hfr hcf h hcl hn0 hx0 hx1 hf0 hf1
  by_cases hb : c.ah ≤ fr - cf
  · have E := Lib.hid (show mayE c p = 250 by rw [HM.out, if_pos hb])
    go_enter Tryz.func34, Tryz.ntmps34
    go_wp2_with fail
    go_quiet (first | (go_at_call 42; exact Calls.quiet_of_same (pF.out _)) | (go_at_call 47; exact Calls.quiet_of (pC.out _)))
    go_wp2_with fail
    go_ret
    exact ⟨ret_int E.out.symm, _, rfl⟩
  · have E := Lib.hid (show mayE c p = 0 by rw [HM.out, if_neg hb])
    go_enter Tryz.func34, Tryz.ntmps34
    go_wp2_with fail
    go_quiet (first | (go_at_call 42; exact Calls.quiet_of_same (pF.out _)) | (go_at_call 47; exact Calls.quiet_of (pC.out _)))
    go_wp2_with fail
    go_ret
    exact ⟨ret_int E.out.symm, _, rfl⟩
end Go.Proofs.YtckkpgopddnkiaaGreat.Rl
namespace Go.Proofs.YtckkpgopddnkiaaGreat.Rl
open Go.RowKit Go.Sort Go.Proofs.YtckkpgopddnkiaaGreat.Gm Go.Proofs.YtckkpgopddnkiaaGreat.RingE Go.Proofs.YtckkpgopddnkiaaGreat.Inputq
set_option linter.all false
attribute [local go_sem] idx0 idx1

def addT (c : Cfg) (p : P) : Prop := 128 ≤ nx p (1 - c.lo) - p.f 0
instance (c : Cfg) (p : P) : Decidable (addT c p) := by unfold addT; infer_instance
def addR (c : Cfg) (p : P) (v : Int) : P := if addT c p then p else { p with qs := upd p.qs (1 - c.lo) (addQ (p.qs (1 - c.lo)) v) }

def addN (c : Cfg) (p : P) : Int := if addT c p then 0 else nx p (1 - c.lo)
def addC (c : Cfg) (p : P) : Int := if addT c p then 2 else 0

set_option maxRecDepth 100000 in
set_option maxHeartbeats 4000000 in
theorem addRemote_any (w : World) (c : Cfg) (s : SE) (p : P) (C : Array Value) (v : Int) (h : EAt w c s p C) (ok : OkE c p) :
    Calls Tryz.prog 16 #[.pointer (some ⟨s.g, 0, none⟩), .int .u16 v] w fun e w' =>
      e = .returned (.tuple #[.int .i64 (addN c p), .int .i64 (addC c p)]) ∧ TurnedE w c s (addR c p v) w' := by
  have lo := ok.lo
  have hi : 1 - c.lo < 2 := by omega
  have pR := Lib.hid (fun j => remote_any (w.drewN j) c s p C (h.drewN j) ok.lo)
  have pF := Lib.hid (fun j => frame_any (w.drewN j) s.g (p.f 0) (h.drewN j).c7)
  have pN := Lib.hid (fun j => Inputq.next_any (w.drewN j) (s.ss (1 - c.lo)) (p.qs (1 - c.lo)) ((h.drewN j).qa _ hi) (ok.q _ hi))
  have pA := Lib.hid (fun j => Inputq.add_any (w.drewN j) (s.ss (1 - c.lo)) (p.qs (1 - c.lo)) v ((h.drewN j).qa _ hi) (ok.q _ hi))
  have hn1 := ok.n1 _ hi
  have hx0 := ok.nx0 hi
  have hf0 := ok.f0
  have hf1 := ok.f1
  have HT := Lib.hid (show addT c p ↔ 128 ≤ nx p (1 - c.lo) - p.f 0 from Iff.rfl)
  have HFIN := Lib.hid (show ∀ j W, TurnedQ (w.drewN j) (s.ss (1 - c.lo)) (addQ (p.qs (1 - c.lo)) v) W → TurnedE w c s { p with qs := upd p.qs (1 - c.lo) (addQ (p.qs (1 - c.lo)) v) } W from fun j W ht => by
    obtain ⟨s', e1, e2, e3, h', T, F⟩ := (h.drewN j).queue hi ht
    exact ⟨s', C, ⟨e1, e2, e3⟩, h', ⟨T.os, T.tape, T.output, T.size, T.block⟩, F⟩)
  have HSAME := Lib.hid (show ∀ j, TurnedE w c s p (w.drewN j) from fun j => TurnedE.refl h (below_drewN (Below.refl _ w) j))
  obtain ⟨n, hn⟩ : ∃ n, nx p (1 - c.lo) = n := ⟨_, rfl⟩
  obtain ⟨fr, hfr⟩ : ∃ fr, p.f 0 = fr := ⟨_, rfl⟩
  have HN := Lib.hid (show addN c p = if addT c p then 0 else nx p (1 - c.lo) from rfl)
  rw [hn] at hn1 hx0 HT HN
  rw [hfr] at pF hf0 hf1 HT
  unfold nx at hn
  rw [hn] at pN pA
  have hw : IntKind.i64.wrap (n - fr) = n - fr := IntWalk.i64_in _ (by omega)
  clear h ok hn hfr hn1 hx0 hf0 hf1
  by_cases hb : 128 ≤ n - fr
  · have E0 := Lib.hid (show addN c p = 0 by rw [HN.out]; exact if_pos (HT.out.2 hb))
    have E1 := Lib.hid (show addC c p = 2 from if_pos (HT.out.2 hb))
    have E2 := Lib.hid (show addR c p v = p by unfold addR; rw [if_pos (HT.out.2 hb)])
    go_enter Tryz.func16, Tryz.ntmps16
    go_wp2_with fail
    refine (pR.out 0).mono ?_
    rintro e w1 ⟨rfl, n1, rfl⟩
    go_wp2_with fail
    refine (pN.out _).mono ?_
    rintro e w1 ⟨rfl, n2, rfl⟩
    go_wp2_with fail
    refine (pF.out _).mono ?_
    rintro e w1 ⟨rfl, rfl⟩
    go_wp2_with fail
    go_ret2
    exact ⟨by first | rfl | (rw [E0.out, E1.out]; done) | (rw [E0.out, E1.out]; rfl), by rw [E2.out]; exact HSAME.out _⟩
  · have E0 := Lib.hid (show addN c p = n by rw [HN.out]; exact if_neg (fun h => hb (HT.out.1 h)))
    have E1 := Lib.hid (show addC c p = 0 from if_neg (fun h => hb (HT.out.1 h)))
    have E2 := Lib.hid (show addR c p v = { p with qs := upd p.qs (1 - c.lo) (addQ (p.qs (1 - c.lo)) v) } by unfold addR; rw [if_neg (fun h => hb (HT.out.1 h))])
    go_enter Tryz.func16, Tryz.ntmps16
    go_wp2_with fail
    refine (pR.out 0).mono ?_
    rintro e w1 ⟨rfl, n1, rfl⟩
    go_wp2_with fail
    refine (pN.out _).mono ?_
    rintro e w1 ⟨rfl, n2, rfl⟩
    go_wp2_with fail
    refine (pF.out _).mono ?_
    rintro e w1 ⟨rfl, rfl⟩
    go_wp2_with fail
    refine (pR.out _).mono ?_
    rintro e w1 ⟨rfl, n3, rfl⟩
    go_wp2_with fail
    refine (pA.out _).mono ?_
    rintro e w1 ⟨rfl, ht⟩
    have HT2 := Lib.hid (HFIN.out _ _ ht)
    clear ht
    go_wp2_with fail
    go_ret2
    exact ⟨by first | rfl | (rw [E0.out, E1.out]; done) | (rw [E0.out, E1.out]; rfl), by rw [E2.out]; exact HT2.out⟩
end Go.Proofs.YtckkpgopddnkiaaGreat.Rl
