/-
  Package saved: New, Len, First, Next, Drop; the states in memory; Save. Conditions: the states lie in memory, numbers without overflow.
-/
import Derived.Test.YtblnfkhaicjeaaaRingEE
import Derived.Deep.QuietTactic
import Derived.BigQuiet
import Derived.Deep.Cut
import Derived.Deep.CutBlock
import Derived.StillTailTactics
namespace Go.Proofs.Ytblnfkhaicjeaaa.Sav
open Go.RowKit Go.Sort Go.Proofs.Ytblnfkhaicjeaaa.Gm Go.Proofs.Ytblnfkhaicjeaaa.RingE
set_option linter.all false

/-- Saved states in memory: their block, and the ring. -/
def SA (w : World) (g r : Nat) (room first : Int) (sv : Value) (l : List NT) : Prop :=
  Blk w g 153 #[.pointer (some ⟨r, 0, none⟩)] ∧ At w r room first sv l
section
variable {S : Nat → Prop} {w w' : World} {g r : Nat} {room first : Int} {sv : Value} {l : List NT}
theorem SA.c0 (h : SA w g r room first sv l) : w.cell? ⟨g, 0, none⟩ = some (.pointer (some ⟨r, 0, none⟩)) := Blk.cell h.1 0
theorem SA.below (h : SA w g r room first sv l) (hb : Below w.heap.size w w') : SA w' g r room first sv l := ⟨Blk.below h.1 hb (Blk.lt h.1), h.2.below hb⟩
theorem SA.drewN (h : SA w g r room first sv l) (n : Nat) : SA (w.drewN n) g r room first sv l := h
theorem SA.ng (h : SA w g r room first sv l) : ¬ fp r sv g := fun hk => hk.elim (fun e => Blk.ne_ h.1 h.2.1 (by decide) e) (fun e => On.blk_ne h.2.2 h.1 (by decide) e)
end
/-- What a call leaves: saved states, their ring in its own blocks or new ones; nothing else has turned. -/
def TurnedS (w : World) (g r : Nat) (sv : Value) (room first : Int) (l : List NT) (w' : World) : Prop :=
  ∃ sv', SA w' g r room first sv' l ∧ Touch (fp r sv) w w' ∧ ∀ k, fp r sv' k → fp r sv k ∨ w.heap.size ≤ k
theorem TurnedS.of {w w' : World} {g r : Nat} {room first f' : Int} {sv : Value} {l l' : List NT} (h : SA w g r room first sv l) (ht : Turned w r sv room f' l' w') : TurnedS w g r sv room f' l' w' := by
  obtain ⟨sv', hA, hT, hF⟩ := ht
  exact ⟨sv', ⟨Blk.touch h.1 hT h.ng, hA⟩, hT, hF⟩
theorem TurnedS.refl {w w' : World} {g r : Nat} {room first : Int} {sv : Value} {l : List NT} (h : SA w g r room first sv l) (hb : Below w.heap.size w w') : TurnedS w g r sv room first l w' :=
  ⟨sv, h.below hb, Touch.of_below hb, fun k hk => .inl hk⟩
theorem TurnedS.trans {w w1 w2 : World} {g r : Nat} {room first f' : Int} {sv : Value} {l l' : List NT} (h : TurnedS w g r sv room first l w1)
    (h' : ∀ sv', SA w1 g r room first sv' l → TurnedS w1 g r sv' room f' l' w2) : TurnedS w g r sv room f' l' w2 := by
  obtain ⟨s1, hA, hT, hF⟩ := h
  obtain ⟨s2, hB, hT2, hF2⟩ := h' s1 hA
  exact ⟨s2, hB, hT.trans hT2 (fun k hk => hF k hk), fun k hk => (hF2 k hk).elim (fun h => hF k h) (fun h => .inr (Nat.le_trans hT.size h))⟩

set_option maxHeartbeats 1000000 in
theorem new_ok (n : Int) (w : World) (h : 1 ≤ n) (h2 : n ≤ 256) :
    Calls Try.prog 79 #[.int .i64 n] w fun e w' => e = .returned (.tuple #[.pointer (some ⟨w.heap.size + 1, 0, none⟩), .int .i64 0]) ∧ SA w' (w.heap.size + 1) w.heap.size n 0 (.slice none 0 0) [] ∧ Below w.heap.size w w' := by
  have p := Lib.hid (fun W => RingE.new_ok n W h (by omega))
  go_enter Try.func79, Try.ntmps79
  go_wp2_with fail
  refine (p.out _).mono ?_
  rintro e w1 ⟨rfl, rfl⟩
  go_wp2_with fail
  go_ret2
  refine ⟨rfl, ⟨?_, ?_⟩, ?_⟩
  · have := Blk.new (w.alloc (.cells #[.int .i64 n, .int .i64 0, .slice none 0 0] 188)) 153 #[.pointer (some ⟨w.heap.size, 0, none⟩)]
    simpa using this
  · exact (at_new w n).alloc _
  · exact ((Below.refl _ w).alloc (Nat.le_refl _) _).alloc (by simp) _
set_option maxHeartbeats 1000000 in
theorem new_no (n : Int) (w : World) (h : n < 1 ∨ 256 < n) :
    Calls Try.prog 79 #[.int .i64 n] w fun e w' => e = .returned (.tuple #[.pointer none, .int .i64 1]) ∧ w = w' := by
  rcases h with h | h
  · go_enter Try.func79, Try.ntmps79
    go_wp2
    go_ret2
    exact ⟨rfl, rfl⟩
  · have h' : ¬ n < 1 := by omega
    go_enter Try.func79, Try.ntmps79
    go_wp2
    go_ret2
    exact ⟨rfl, rfl⟩
set_option maxHeartbeats 1000000 in
theorem slen_any (w : World) (g r : Nat) (room first : Int) (sv : Value) (l : List NT) (h : SA w g r room first sv l) :
    Calls Try.prog 82 #[.pointer (some ⟨g, 0, none⟩)] w fun e w' => e = .returned (.int .i64 l.length) ∧ w = w' := by
  have c0 := h.c0
  have p := Lib.hid (len_any w r room first sv l h.2)
  go_enter Try.func82, Try.ntmps82
  go_wp2_with fail
  refine p.out.mono ?_
  rintro e w1 ⟨rfl, rfl⟩
  go_wp2_with fail
  go_ret
  exact ⟨rfl, rfl⟩
set_option maxHeartbeats 1000000 in
theorem sfirst_any (w : World) (g r : Nat) (room first : Int) (sv : Value) (l : List NT) (h : SA w g r room first sv l) :
    Calls Try.prog 122 #[.pointer (some ⟨g, 0, none⟩)] w fun e w' => e = .returned (.int .i64 first) ∧ w = w' := by
  have c0 := h.c0
  have p := Lib.hid (first_any w r room first sv l h.2)
  go_enter Try.func122, Try.ntmps122
  go_wp2_with fail
  refine p.out.mono ?_
  rintro e w1 ⟨rfl, rfl⟩
  go_wp2_with fail
  go_ret
  exact ⟨rfl, rfl⟩
set_option maxHeartbeats 1000000 in
theorem snext_any (w : World) (g r : Nat) (room first : Int) (sv : Value) (l : List NT) (h : SA w g r room first sv l) (h0 : 0 ≤ first) (h1 : first + l.length ≤ 4611686018427387904) :
    Calls Try.prog 81 #[.pointer (some ⟨g, 0, none⟩)] w fun e w' => e = .returned (.int .i64 (first + l.length)) ∧ ∃ n, w' = w.drewN n := by
  have c0 := h.c0
  have p := Lib.hid (next_any w r room first sv l h.2 h0 h1)
  go_enter Try.func81, Try.ntmps81
  go_wp2_with fail
  refine p.out.mono ?_
  rintro e w1 ⟨rfl, nq, rfl⟩
  go_wp2_with fail
  go_ret
  exact ⟨rfl, nq, rfl⟩
set_option maxHeartbeats 1000000 in
theorem sdrop_any (w : World) (g r : Nat) (room first n : Int) (sv : Value) (l : List NT) (h : SA w g r room first sv l) (h0 : 0 ≤ first) (h1 : first + l.length ≤ 4611686018427387904) (hl : l.length ≤ 4096) (hn : n ≤ 9223372036854775807) :
    Calls Try.prog 84 #[.pointer (some ⟨g, 0, none⟩), .int .i64 n] w fun e w' => e = .returned (.tuple #[]) ∧ TurnedS w g r sv room (dropF first l.length n) (dropL first l n) w' := by
  have c0 := h.c0
  have p := Lib.hid (drop_any w r room first n sv l h.2 h0 h1 hl hn)
  have H := Lib.hid h
  clear h
  go_enter Try.func84, Try.ntmps84
  go_wp2_with fail
  refine p.out.mono ?_
  rintro e w1 ⟨rfl, ht⟩
  have hT := Lib.hid (TurnedS.of H.out ht)
  clear ht
  go_wp2_with fail
  refine bodyPost_end (results_none rfl _ _ _) rfl ⟨rfl, hT.out⟩
end Go.Proofs.Ytblnfkhaicjeaaa.Sav
namespace Go.Proofs.Ytblnfkhaicjeaaa.Sav
open Go.RowKit Go.Sort Go.Proofs.Ytblnfkhaicjeaaa.Gm Go.Proofs.Ytblnfkhaicjeaaa.RingE
set_option linter.all false

theorem built_E (f : F) (s : Int) : Try.prog.built 149 [(0, .agg (stA f)), (1, .int .u32 s)] = some (cs (f, s)).toArray := by
  show _ = _
  kernel_rfl
def buildR (P : Program) (u v : Value) (w : World) : Result Next := (Sem.run P (Instr.build 149 #[(0, u), (1, v)]) w).andThen fun u w' => .ok (.value u) w'
theorem exec_bdE (ev : Operand → Value) (dst : Option Tmp) (x y : Operand) (ty : TypeId) (pos : String) (after : Array Edge) (guard : Option (Nat × Bool)) (w : World) :
    (execOp ev { dst := dst, op := Op.build 149 #[(0, x), (1, y)], type := ty, pos := pos, after := after, guard := guard }).run Try.prog w = buildR Try.prog (ev x) (ev y) w := by
  unfold execOp buildR
  simp only [Sem.run_bind, Sem.run_pure, List.map_toArray, List.map_cons, List.map_nil]
theorem buildR_at (w : World) {C E : Array Value} {f : F} {s : Int} (LC : Let C f) (LE : EL E (f, s)) : buildR Try.prog (.agg C) (.int .u32 s) w = .ok (.value (.agg E)) w := by
  have e : (cs (f, s)).toArray = E := Array.ext' LE.eq.symm
  unfold buildR
  rw [LC.eq, run_build w _ _ _ (built_E f s), e]
  rfl
attribute [local go_sem ↓] exec33 exec_bdE
attribute [local go_sem] loadR_at cellsAt_drew

def saveP (first : Int) (l : List NT) (fr : Int) : Prop := l.length = 0 ∧ first = 0 ∧ 0 ≤ fr ∧ fr ≤ 1073741824
instance (first : Int) (l : List NT) (fr : Int) : Decidable (saveP first l fr) := by unfold saveP; infer_instance
def baseF (first : Int) (l : List NT) (fr : Int) : Int := if saveP first l fr then fr else first
def saveE (first : Int) (l : List NT) (fr : Int) : Int := if baseF first l fr + l.length < fr then 210 else if fr < baseF first l fr then 90 else 0
def saveF (room first : Int) (l : List NT) (f : F) : Int := if saveE first l (f 0) = 0 then putF room (baseF first l (f 0)) (cutL (baseF first l (f 0)) l (f 0)) else first
def saveL (room first : Int) (l : List NT) (f : F) : List NT := if saveE first l (f 0) = 0 then putL room (cutL (baseF first l (f 0)) l (f 0)) (f, sumL (stB f)) else l
theorem saveE_base {first : Int} {l : List NT} {fr : Int} (h : saveE first l fr ≠ 0) : baseF first l fr = first := by
  unfold saveE baseF at *
  split
  · rename_i hp
    rw [if_pos hp] at h
    exact absurd (by rw [if_neg (by omega), if_neg (by omega)]) h
  · rfl

theorem sa_uniq {w : World} {g g' r : Nat} {room room' first first' : Int} {sv sv' : Value} {l l' : List NT} (h : SA w g r room first sv l) (h' : SA w g' r room' first' sv' l') : sv = sv' := by
  have a := h.2.cells.1.2.2
  rw [h'.2.cells.1.2.2] at a
  exact (Option.some.inj a).symm

set_option maxRecDepth 100000 in
set_option maxHeartbeats 8000000 in
theorem save_any (w : World) (g r : Nat) (room first : Int) (sv : Value) (l : List NT) (C : Array Value) (f : F) (LC : Let C f) (hw : Wf f) (h : SA w g r room first sv l) (h0 : 0 ≤ first) (h1 : first + l.length ≤ 4611686018427387904) (hl : l.length ≤ 4096) (hroom : 0 < room) :
    Calls Try.prog 80 #[.pointer (some ⟨g, 0, none⟩), .agg C] w fun e w' => e = .returned (.int .i64 (saveE first l (f 0))) ∧ TurnedS w g r sv room (saveF room first l f) (saveL room first l f) w' := by
  obtain ⟨W1, hW1⟩ : ∃ W1, W1 = w.alloc (.cells C 33) := ⟨_, rfl⟩
  have hX : Blk W1 w.heap.size 33 C := by rw [hW1]; exact Blk.new _ _ _
  have hB : Below w.heap.size w W1 := by rw [hW1]; exact (Below.refl _ w).alloc (Nat.le_refl _) _
  have hA := h.below hB
  have hfp : ¬ fp r sv w.heap.size := fun hk => by have := h.2.lt _ hk; omega
  obtain ⟨fr, hfr⟩ : ∃ fr, f 0 = fr := ⟨_, rfl⟩
  have hcell : ∀ W, Blk W w.heap.size 33 C → W.cell? ⟨w.heap.size, 0, none⟩ = some (.int .i64 fr) := fun W hX => by
    have h := LC.sb hX
    have h2 := h.int (j := 0) (by omega) (by omega) (by omega)
    rw [hfr] at h2
    exact h2
  have HF := Lib.hid (show saveF room first l f = if saveE first l fr = 0 then putF room (baseF first l fr) (cutL (baseF first l fr) l fr) else first by unfold saveF; rw [hfr])
  have HL := Lib.hid (show saveL room first l f = if saveE first l fr = 0 then putL room (cutL (baseF first l fr) l fr) (f, sumL (stB f)) else l by unfold saveL; rw [hfr])
  have hfb : -9223372036854775808 ≤ fr ∧ fr ≤ 9223372036854775807 := by rw [← hfr]; exact hw.i64 0 (by omega)
  have HC := Lib.hid hcell
  have HX := Lib.hid hX
  have HA := Lib.hid hA
  have HB := Lib.hid hB
  have cg := hA.c0
  have c0 := hcell W1 hX
  have pL := Lib.hid (len_any W1 r room first sv l hA.2)
  have pN := Lib.hid (next_any W1 r room first sv l hA.2 h0 h1)
  rw [hfr]
  clear h hX hB hA hcell
  go_enter Try.func80, Try.ntmps80
  go_upto_region 1 with fail
  rw [← hW1]
  clear hW1
  go_cut [28] (fun v wx => v = .bool (decide (saveP first l fr)) ∧ ∃ n, wx = W1.drewN n)
  case first =>
    by_cases p1 : l.length = 0
    · have p1' : ((l.length : Int) == 0) = true := by simp [p1]
      by_cases p2 : first = 0
      · have p2' : (first + (l.length : Int) == 0) = true := by simp [p1, p2]
        by_cases p3 : 0 ≤ fr
        · by_cases p4 : fr ≤ 1073741824
          · have E := Lib.hid (show decide (saveP first l fr) = true by simp [saveP, p1, p2, p3, p4])
            have P1 := Lib.hid p1
            have P2 := Lib.hid p2
            clear p1 p2
            go_wp2_with fail
            refine pL.out.mono ?_
            rintro e w2 ⟨rfl, rfl⟩
            go_wp2_with fail
            refine pN.out.mono ?_
            rintro e w2 ⟨rfl, nq, rfl⟩
            go_wp2_with fail
            go_meet
            exact ⟨by first | (rw [E.out]; done) | (rw [E.out]; rfl) | (rw [E.out]; simp; omega), nq, rfl⟩
          · have E := Lib.hid (show decide (saveP first l fr) = false by simp [saveP, p1, p2, p3, p4])
            have P1 := Lib.hid p1
            have P2 := Lib.hid p2
            clear p1 p2
            go_wp2_with fail
            refine pL.out.mono ?_
            rintro e w2 ⟨rfl, rfl⟩
            go_wp2_with fail
            refine pN.out.mono ?_
            rintro e w2 ⟨rfl, nq, rfl⟩
            go_wp2_with fail
            go_meet
            exact ⟨by first | (rw [E.out]; done) | (rw [E.out]; rfl) | (rw [E.out]; simp; omega), nq, rfl⟩
        · have E := Lib.hid (show decide (saveP first l fr) = false by simp [saveP, p1, p2, p3])
          have P1 := Lib.hid p1
          have P2 := Lib.hid p2
          clear p1 p2
          go_wp2_with fail
          refine pL.out.mono ?_
          rintro e w2 ⟨rfl, rfl⟩
          go_wp2_with fail
          refine pN.out.mono ?_
          rintro e w2 ⟨rfl, nq, rfl⟩
          go_wp2_with fail
          go_meet
          exact ⟨by first | (rw [E.out]; done) | (rw [E.out]; rfl) | (rw [E.out]; simp; omega), nq, rfl⟩
      · have p2' : (first + (l.length : Int) == 0) = false := by simp [p1, p2]
        have E := Lib.hid (show decide (saveP first l fr) = false by simp [saveP, p1, p2])
        have P1 := Lib.hid p1
        have P2 := Lib.hid p2
        clear p1 p2
        go_wp2_with fail
        refine pL.out.mono ?_
        rintro e w2 ⟨rfl, rfl⟩
        go_wp2_with fail
        refine pN.out.mono ?_
        rintro e w2 ⟨rfl, nq, rfl⟩
        go_wp2_with fail
        go_meet
        exact ⟨by first | (rw [E.out]; done) | (rw [E.out]; rfl) | (rw [E.out]; simp; omega), nq, rfl⟩
    · have p1' : ((l.length : Int) == 0) = false := by simp; intro h; exact p1 (by rw [h]; rfl)
      have E := Lib.hid (show decide (saveP first l fr) = false by simp [saveP, p1])
      have P1 := Lib.hid p1
      clear p1
      go_wp2_with fail
      refine pL.out.mono ?_
      rintro e w2 ⟨rfl, rfl⟩
      go_wp2_with fail
      go_meet
      exact ⟨by first | (rw [E.out]; done) | (rw [E.out]; rfl) | (rw [E.out]; simp; omega), 0, rfl⟩
  case rest =>
    obtain ⟨rfl, nq, rfl⟩ := hcut
    clear pL pN
    have cg' : (W1.drewN nq).cell? ⟨g, 0, none⟩ = some (.pointer (some ⟨r, 0, none⟩)) := cg
    have c0' : (W1.drewN nq).cell? ⟨w.heap.size, 0, none⟩ = some (.int .i64 fr) := c0
    clear cg c0
    have HA2 := Lib.hid (HA.out.drewN nq)
    have HX2 := Lib.hid (HX.out.drewN nq)
    have HB2 := Lib.hid (below_drewN HB.out nq)
    have hFB := Lib.hid (show baseF first l fr = if saveP first l fr then fr else first from rfl)
    generalize W1.drewN nq = W2 at *
    go_upto_if 28 with fail
    go_cut [] (fun wx => TurnedS W2 g r sv room (baseF first l fr) l wx)
    case first =>
      by_cases hp : saveP first l fr
      · have hp' : decide (saveP first l fr) = true := by simpa using hp
        have hE : l = [] := List.eq_nil_of_length_eq_zero hp.1
        have HFB := Lib.hid (show baseF first l fr = fr by rw [hFB.out, if_pos hp])
        have HE := Lib.hid hE
        rw [hp']
        have pR := Lib.hid (fun W (h : At W r room first sv l) => reset_any W r room first fr sv l h)
        clear hp hp' hE
        go_wp2_with fail
        have hS0 : W2.drew.cell? ⟨g, 0, none⟩ = some (.pointer (some ⟨r, 0, none⟩)) ∧ W2.drew.cell? ⟨w.heap.size, 0, none⟩ = some (.int .i64 fr) := ⟨cg', c0'⟩
        refine wp_region_still_tail 6 (by kernel_rfl) (by kernel_rfl) ?_
        simp only [List.take_succ_cons, List.take_zero, List.drop_succ_cons, List.drop_zero]
        iterate 6 still_step
        refine wpStill_nil ?_
        change wpList _ _ _ _ _ (World.drew _)
        go_wp2_with fail
        refine (pR.out _ HA2.out.2.drew).mono ?_
        rintro e w3 ⟨rfl, ht⟩
        have HT := Lib.hid (TurnedS.of (w := W2) HA2.out (by
          obtain ⟨s', hA', hT', hF'⟩ := ht
          exact ⟨s', hA', ⟨hT'.os, hT'.tape, hT'.output, hT'.size, hT'.block⟩, hF'⟩))
        clear ht
        go_wp2_with fail
        go_meet
        rw [HFB.out, HE.out]
        exact HT.out
      · have hp' : decide (saveP first l fr) = false := by simpa using hp
        have HFB := Lib.hid (show baseF first l fr = first by rw [hFB.out, if_neg hp])
        rw [hp']
        clear hp hp'
        go_wp2_with fail
        go_meet
        rw [HFB.out]
        exact TurnedS.refl HA2.out (Below.refl _ _)
    case rest =>
      have hne : ¬ fp r sv w.heap.size := hfp
      have HBX := Lib.hid (Blk.lt HX2.out)
      clear cg' c0' hFB hfp
      obtain ⟨first1, hf1⟩ : ∃ x, x = baseF first l fr := ⟨_, rfl⟩
      rw [← hf1] at hcut HF HL
      have HE := Lib.hid (show saveE first l fr = if first1 + l.length < fr then 210 else if fr < first1 then 90 else 0 by rw [hf1]; rfl)
      have HF1 := Lib.hid hf1
      have hb0 : 0 ≤ first1 ∧ first1 + (l.length : Int) ≤ 4611686018427387904 := by
        rw [hf1]
        unfold baseF
        by_cases hp : saveP first l fr
        · rw [if_pos hp]
          obtain ⟨p1, p2, p3, p4⟩ := hp
          exact ⟨p3, by omega⟩
        · rw [if_neg hp]
          exact ⟨h0, h1⟩
      clear hf1
      obtain ⟨b0, b1⟩ := hb0
      obtain ⟨sv1, hA1, hT1, hF1⟩ := hcut
      have X1 : Blk wc w.heap.size 33 C := Blk.touch HX2.out hT1 hne
      have cg := hA1.c0
      have c0 := HC.out wc X1
      have HA1 := Lib.hid hA1
      have HT1 := Lib.hid hT1
      have HFr := Lib.hid hF1
      have HX1 := Lib.hid X1
      clear hA1 hT1 hF1 X1 HX2 HA2
      go_upto_region 3 with fail
      go_quiet ((go_at_call 116; exact Calls.quiet_of (next_any _ r room first1 sv1 l (HA1.out.2.drewN _) b0 b1)))
      have HA3 := Lib.hid (HA1.out.drewN nq)
      have HX3 := Lib.hid (HX1.out.drewN nq)
      have cg' : (wc.drewN nq).cell? ⟨g, 0, none⟩ = some (.pointer (some ⟨r, 0, none⟩)) := cg
      have c0' : (wc.drewN nq).cell? ⟨w.heap.size, 0, none⟩ = some (.int .i64 fr) := c0
      have HT3 := Lib.hid (show TurnedS W2 g r sv room first1 l (wc.drewN nq) from ⟨sv1, HA3.out, HT1.out.drewN nq, HFr.out⟩)
      clear cg c0
      generalize wc.drewN nq = W3 at *
      have HW := Lib.hid (show ∀ f' l' W, TurnedS W2 g r sv room f' l' W → TurnedS w g r sv room f' l' W from fun f' l' W ⟨s', hA', hT', hF'⟩ =>
        ⟨s', hA', (Touch.of_below (S := fp r sv) HB2.out).trans hT' (fun k hk => .inl hk), fun k hk => (hF' k hk).imp id (fun h => Nat.le_trans HB2.out.size h)⟩)
      by_cases q1 : first1 + (l.length : Int) < fr
      · have e1 := Lib.hid (show saveE first l fr = 210 by rw [HE.out, if_pos q1])
        have HFF := Lib.hid (show saveF room first l f = first1 by rw [HF.out, if_neg (by rw [e1.out]; decide), HF1.out, saveE_base (by rw [e1.out]; decide)])
        have HLL := Lib.hid (show saveL room first l f = l by rw [HL.out, if_neg (by rw [e1.out]; decide)])
        have hq : decide (first1 + (l.length : Int) < fr) = true := by simpa using q1
        clear HE HF HL
        go_wp2_with fail
        go_ret
        exact ⟨ret_int e1.out.symm, by rw [HFF.out, HLL.out]; exact HW.out _ _ _ HT3.out⟩
      · have hq : decide (first1 + (l.length : Int) < fr) = false := by simpa using q1
        have Q1 := Lib.hid (show ¬ first1 + (l.length : Int) < fr from q1)
        go_wp2_with fail
        go_quiet ((go_at_call 118; exact Calls.quiet_of_same ((first_any _ r room first1 sv1 l (HA3.out.2.drewN _)).mono fun _ _ h => ⟨h.1, h.2.symm⟩)))
        have HA4 := Lib.hid (HA3.out.drewN nq)
        have HX4 := Lib.hid (HX3.out.drewN nq)
        have cg := HA4.out.c0
        have c0 := HC.out _ HX4.out
        have HT4 := Lib.hid (show TurnedS W2 g r sv room first1 l (W3.drewN nq) from by
          obtain ⟨s', hA', hT', hF'⟩ := HT3.out
          exact ⟨s', hA'.drewN nq, hT'.drewN nq, hF'⟩)
        have HN4 := Lib.hid (show ∀ k, fp r sv1 k → fp r sv k ∨ W2.heap.size ≤ k from HFr.out)
        clear cg' c0' HX3
        generalize W3.drewN nq = W4 at *
        by_cases q2 : fr < first1
        · have e1 := Lib.hid (show saveE first l fr = 90 by rw [HE.out, if_neg (by have := Q1.out; omega), if_pos q2])
          have HFF := Lib.hid (show saveF room first l f = first1 by rw [HF.out, if_neg (by rw [e1.out]; decide), HF1.out, saveE_base (by rw [e1.out]; decide)])
          have HLL := Lib.hid (show saveL room first l f = l by rw [HL.out, if_neg (by rw [e1.out]; decide)])
          have hq2 : decide (fr < first1) = true := by simpa using q2
          clear HE HF HL
          go_wp2_with fail
          go_ret
          exact ⟨ret_int e1.out.symm, by rw [HFF.out, HLL.out]; exact HW.out _ _ _ HT4.out⟩
        · have e1 := Lib.hid (show saveE first l fr = 0 by rw [HE.out, if_neg (by have := Q1.out; omega), if_neg q2])
          have HFF := Lib.hid (show saveF room first l f = putF room first1 (cutL first1 l fr) by rw [HF.out, if_pos e1.out])
          have HLL := Lib.hid (show saveL room first l f = putL room (cutL first1 l fr) (f, sumL (stB f)) by rw [HL.out, if_pos e1.out])
          have hq2 : decide (fr < first1) = false := by simpa using q2
          have pCut := Lib.hid (cut_any W4.drew r room first1 fr sv1 l HA4.out.2.drew b0 b1)
          have hcl : (cutL first1 l fr).length ≤ l.length := by unfold cutL; split <;> (try simp) <;> omega
          have HCL := Lib.hid hcl
          clear HE HF HL hcl
          go_upto_region 7 with fail
          refine wp_region_still_tail 6 (by kernel_rfl) (by kernel_rfl) ?_
          simp only [List.take_succ_cons, List.take_zero, List.drop_succ_cons, List.drop_zero]
          iterate 6 still_step
          refine wpStill_nil ?_
          change wpList _ _ _ _ _ (World.drew _)
          go_wp2_with fail
          refine pCut.out.mono ?_
          rintro e w5 ⟨rfl, ht⟩
          have HT5 := Lib.hid (TurnedS.of (w := W4.drew) (HA4.out.drewN 1) ht)
          have X5 : Blk w5 w.heap.size 33 C := by
            obtain ⟨s', hA', hT', hF'⟩ := ht
            exact Blk.touch (Blk.drew HX4.out) hT' (fun hk => (HN4.out _ hk).elim hne (fun hge => by have := HBX.out; omega))
          have HX5 := Lib.hid X5
          have hsz := LC.size
          clear ht X5 cg c0 pCut
          obtain ⟨sv2, hA5, hT5, hF5⟩ := HT5.out
          have HNF := Lib.hid (show ¬ fp r sv2 w.heap.size from fun hk => (hF5 _ hk).elim (fun h1' => (HN4.out _ h1').elim hne (fun hge => by have := HBX.out; omega)) (fun hge => by have h1' := Blk.lt HX4.out; have h2' : W4.heap.size ≤ w.heap.size := hge; omega))
          have HT6 := Lib.hid hT5
          have HF6 := Lib.hid hF5
          have HA5 := Lib.hid hA5
          have cg5 := hA5.c0
          have hcC : cellsAt w5 w.heap.size = C := cellsAt_blk HX5.out
          have pSum := Lib.hid (fun W => sum_any W f hw)
          unfold stV at pSum
          rw [← LC.eq] at pSum
          generalize sumL (stB f) = sm at *
          obtain ⟨E, LE⟩ := el_of (f, sm)
          have hbd : ∀ W, buildR Try.prog (.agg C) (.int .u32 sm) W = .ok (.value (.agg E)) W := fun W => buildR_at W LC LE
          have pPut := Lib.hid (fun W (h : At W r room first1 sv2 (cutL first1 l fr)) => put_any W r room first1 (f, sm) E LE sv2 (cutL first1 l fr) h b0 (by have := HCL.out; omega) (by have := HCL.out; omega) hroom)
          have hS0 : w5.drew.cell? ⟨g, 0, none⟩ = some (.pointer (some ⟨r, 0, none⟩)) ∧ cellsAt w5.drew w.heap.size = C := ⟨cg5, hcC⟩
          clear hA5 hT5 hF5 HT5 cg5 hcC LE
          go_upto_region 8 with fail
          go_region_held3 (fun w' => w'.cell? ⟨g, 0, none⟩ = some (.pointer (some ⟨r, 0, none⟩)) ∧ cellsAt w' w.heap.size = C) (first | exact hS0 | exact ⟨A6.c0, cellsAt_blk X6⟩ | exact ⟨A7.c0, cellsAt_blk X7⟩ | fail)
            (first
              | (go_at_call 24; refine (pSum.out _).mono ?_; rintro e w6 ⟨rfl, b6'⟩; have b6 : Below w5.heap.size w5 w6 := ⟨b6'.os, b6'.tape, b6'.output, b6'.size, b6'.block⟩; have A6 := HA5.out.below b6; have X6 : Blk w6 w.heap.size 33 C := Blk.below HX5.out b6 (Blk.lt HX5.out))
              | (go_at_call 120; refine (pPut.out _ A6.2).mono ?_; rintro e w7 ⟨rfl, t7⟩; obtain ⟨sv3, A7, hT7, hF7⟩ := TurnedS.of A6 t7; have X7 : Blk w7 w.heap.size 33 C := Blk.touch X6 hT7 HNF.out)
              | fail "no arm")
          all_goals
            have TT : TurnedS W4 g r sv1 room (putF room first1 (cutL first1 l fr)) (putL room (cutL first1 l fr) (f, sm)) w7 :=
              ⟨sv3, A7, Touch.trans (w1 := w6) (Touch.trans (w1 := w5) ⟨HT6.out.os, HT6.out.tape, HT6.out.output, HT6.out.size, HT6.out.block⟩ (Touch.of_below (S := fp r sv1) b6) (fun k hk => .inl hk)) hT7 (fun k hk => HF6.out k hk),
                fun k hk => (hF7 k hk).elim (fun h => HF6.out k h) (fun h => .inr (Nat.le_trans (Nat.le_trans HT6.out.size b6.size) h))⟩
            have HTT := Lib.hid TT
            clear TT A7 hT7 hF7 X7 X6 A6 b6 hS0 hbd
            go_wp2_with fail
            go_ret
            exact ⟨ret_int e1.out.symm, by rw [HFF.out, HLL.out]; exact TurnedS.trans (HW.out _ _ _ HT4.out) (fun sv' hA' => by have e := sa_uniq hA' HA4.out; subst e; exact HTT.out)⟩
end Go.Proofs.Ytblnfkhaicjeaaa.Sav
