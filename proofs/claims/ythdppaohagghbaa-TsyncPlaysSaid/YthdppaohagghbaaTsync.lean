/-
  The walks of package tsync. Conditions: the notes lie whole, their numbers are within bounds.
-/
import Derived.Test.YthdppaohagghbaaRingNoteD
import Derived.Test.YthdppaohagghbaaNum3
import Derived.Lib.QuietBelow
import Derived.RangeFuncNested
namespace Go.Proofs.Ythdppaohagghbaa
open Go.RowKit Go.Sort Go.Shelf
set_option linter.all false
attribute [local go_sem] Oper.semAt_some

theorem calls_of_wp_marks' {P : Program} {f : FuncId} {fn : Func} {c : Code} {args : Array Value} {w : World} {R : Ending → World → Prop} (n : Nat)
    (hf : P.funcs[f]? = some fn) (hb : fn.body = some c)
    (h : c.wp P (bodyPostM Fence.wide n P fn R) { tmps := args ++ Array.replicate (fn.ntmps - args.size) undef, defers := [] } w) : Calls P f args w R :=
  (callsIn_wide (n := n)).1 (callsIn_of_wp_marks hf hb trivial (wpIn_wide.2 h) rfl)
theorem row_ne' {W : World} {row : Option Nat} {B g : Nat} {t : TypeId} {cs : Array Value} (hr : ∀ r, row = some r → B ≤ r ∧ ∃ o : Obj, W.heap[r]? = some o ∧ o.isCells = false) (h : Blk W g t cs) : row ≠ some g := by
  intro e
  obtain ⟨_, o, ho, hc⟩ := hr g e
  unfold Blk at h
  rw [h] at ho
  cases ho
  cases hc
namespace Tsync
open RingNote (NT At fp Turned putF putL upto allF KeepB encs ntAt)
open Num

structure Y where
  first : Int
  l : List NT
  next : Int
  waits : Int
  held : Int
structure S where
  q : Nat
  r : Nat
  sv : Value
def SAt (w : World) (s : S) (y : Y) : Prop :=
  Blk w s.q 137 #[.pointer (some ⟨s.r, 0, none⟩), .int .i64 y.next, .int .i64 y.waits, .int .i64 y.held] ∧ At w s.r 16 y.first s.sv y.l
def fpS (s : S) : Nat → Prop := fun k => k = s.q ∨ fp s.r s.sv k
def TurnedS (w : World) (s : S) (y' : Y) (w' : World) : Prop :=
  ∃ s', s'.q = s.q ∧ SAt w' s' y' ∧ Touch (fpS s) w w' ∧ ∀ k, fpS s' k → fpS s k ∨ w.heap.size ≤ k
/-- Numbers within bounds. -/
def Ok (y : Y) : Prop := 0 ≤ y.first ∧ y.first + y.l.length ≤ 2305843009213693952 ∧ y.l.length ≤ 16 ∧ (∀ x ∈ y.l, (-1000 ≤ x.1 ∧ x.1 ≤ 1000) ∧ (-1000 ≤ x.2 ∧ x.2 ≤ 1000)) ∧
  (-9223372036854775808 ≤ y.next ∧ y.next ≤ 9223372036854775807) ∧ (-1000000000 ≤ y.waits ∧ y.waits ≤ 1000000000) ∧ (-1000000000 ≤ y.held ∧ y.held ≤ 1000000000)

section
variable {w w' : World} {s : S} {y : Y}
theorem ring_ne {g r : Nat} {cs : Array Value} {room first : Int} {sv : Value} {l : List NT} (hb : Blk w g 137 cs) (h : At w r room first sv l) : ¬ fp r sv g := by
  intro hk
  rcases hk with e | e
  · exact Blk.ne_ hb h.1 (by decide) e
  · exact h.2.blk_ne hb (by decide) e
theorem SAt.lt (h : SAt w s y) : ∀ k, fpS s k → k < w.heap.size := fun k hk => hk.elim (fun e => e ▸ h.1.lt) (fun e => h.2.lt k e)
theorem SAt.heap_eq (h : SAt w s y) (hW : w'.heap = w.heap) : SAt w' s y := ⟨h.1.heap_eq hW, h.2.heap_eq hW⟩
theorem SAt.touch {T : Nat → Prop} (h : SAt w s y) (ht : Touch T w w') (hS : ∀ k, fpS s k → ¬ T k) : SAt w' s y := ⟨h.1.touch ht (hS _ (.inl rfl)), h.2.touch ht (fun k hk => hS k (.inr hk))⟩
theorem SAt.below (h : SAt w s y) (hb : Below w.heap.size w w') : SAt w' s y := h.touch (Touch.of_below (S := noB) hb) (fun _ _ hn => hn)
theorem SAt.cells (h : SAt w s y) : (w.cell? ⟨s.q, 0, none⟩ = some (.pointer (some ⟨s.r, 0, none⟩)) ∧ w.cell? ⟨s.q, 1, none⟩ = some (.int .i64 y.next) ∧ w.cell? ⟨s.q, 2, none⟩ = some (.int .i64 y.waits) ∧ w.cell? ⟨s.q, 3, none⟩ = some (.int .i64 y.held)) ∧
    (w.frozen? ⟨s.q, 1, none⟩ = false ∧ w.frozen? ⟨s.q, 2, none⟩ = false ∧ w.frozen? ⟨s.q, 3, none⟩ = false) :=
  ⟨⟨h.1.cell 0, h.1.cell 1, h.1.cell 2, h.1.cell 3⟩, h.1.frozen 1, h.1.frozen 2, h.1.frozen 3⟩
/-- The ring has turned. -/
theorem SAt.ring {f : Int} {l : List NT} (h : SAt w s y) (ht : Turned w s.r s.sv 16 f l w') : TurnedS w s { y with first := f, l := l } w' := by
  obtain ⟨sv, hA, hT, hF⟩ := ht
  have hq := ring_ne h.1 h.2
  exact ⟨{ s with sv := sv }, rfl, ⟨h.1.touch hT hq, hA⟩, hT.mono (fun k hk => .inl (.inr hk)), fun k hk => hk.elim (fun e => .inl (.inl e)) (fun e => (hF k e).imp .inr id)⟩
theorem TurnedS.heap {W : World} {y' : Y} (h : TurnedS W s y' w') (hW : W.heap = w.heap) (ho : W.os = w.os) (ht : W.tape = w.tape) (hp : W.output = w.output) : TurnedS w s y' w' := by
  obtain ⟨s', e, hq, hT, hF⟩ := h
  exact ⟨s', e, hq, ⟨hT.os.trans ho, hT.tape.trans ht, hT.output.trans hp, by rw [← hW]; exact hT.size, fun k hk hn => by rw [hT.block k (by rw [hW]; exact hk) hn, hW]⟩, by rw [← hW]; exact hF⟩
end

theorem ring_keeps {w w' : World} {s : S} {y : Y} {f : Int} {l : List NT} (h : SAt w s y) (ht : Turned w s.r s.sv 16 f l w') (i : Nat) : w'.cell? ⟨s.q, i, none⟩ = w.cell? ⟨s.q, i, none⟩ := by
  obtain ⟨sv, hA, hT, hF⟩ := ht
  exact hT.cell (p := ⟨s.q, i, none⟩) h.1.lt (ring_ne h.1 h.2)
theorem held_any (w : World) (n : Int) : Calls Try.prog 88 #[.int .i64 n] w fun e w' => e = .returned (.int .i64 (clampV n (-1000) 1000)) ∧ w = w' := by
  have p := Lib.hid (clamp_any w n (-1000) 1000)
  go_enter Try.func88, Try.ntmps88
  go_wp2_with fail
  refine p.out.mono ?_
  rintro e w' ⟨rfl, rfl⟩
  go_wp2_with fail
  go_ret
  exact ⟨rfl, rfl⟩
def hd (n : Int) : Int := clampV n (-1000) 1000
theorem hd_bd (n : Int) : -1000 ≤ hd n ∧ hd n ≤ 1000 := by unfold hd clampV; omega

def noteY (y : Y) (a b : Int) : Y := { y with first := putF 16 y.first y.l, l := putL 16 y.l (hd a, hd b) }

set_option maxRecDepth 100000 in
set_option maxHeartbeats 4000000 in
theorem note_any (w : World) (s : S) (y : Y) (a b : Int) (h : SAt w s y) (ok : Ok y) :
    Calls Try.prog 28 #[.pointer (some ⟨s.q, 0, none⟩), .int .i64 a, .int .i64 b] w fun e w' => e = .returned (.tuple #[]) ∧ TurnedS w s (noteY y a b) w' := by
  obtain ⟨⟨c0, c1, c2, c3⟩, f1, f2, f3⟩ := h.cells
  obtain ⟨o1, o2, o3, o4, o5, o6, o7⟩ := ok
  have pa := fun W => held_any W a
  have pb := fun W => held_any W b
  obtain ⟨a', ha'⟩ : ∃ a', a' = clampV a (-1000) 1000 := ⟨_, rfl⟩
  obtain ⟨b', hb'⟩ : ∃ b', b' = clampV b (-1000) 1000 := ⟨_, rfl⟩
  rw [← ha'] at pa
  rw [← hb'] at pb
  have pa := Lib.hid pa
  have pb := Lib.hid pb
  have HA := Lib.hid ha'
  have HB := Lib.hid hb'
  have pp := Lib.hid (fun W (hW : W.heap = w.heap) => RingNote.put_any W s.r 16 y.first a' b' s.sv y.l (h.2.heap_eq hW) o1 (by omega) (by omega) (by omega))
  clear ha' hb'
  go_enter Try.func28, Try.ntmps28
  go_region_held3 (fun w' => w'.cell? ⟨s.q, 0, none⟩ = some (.pointer (some ⟨s.r, 0, none⟩))) (first | go_keep | exact d0)
    (first
      | (go_at_call_of 88 (a); refine (pa.out _).mono ?_; rintro e w' ⟨rfl, rfl⟩)
      | (go_at_call_of 88 (b); refine (pb.out _).mono ?_; rintro e w' ⟨rfl, rfl⟩)
      | (go_at_call 87; refine (pp.out _ (by rfl)).mono ?_; rintro e w1 ⟨rfl, ht⟩; have d0 := (ring_keeps (h.heap_eq (by rfl)) ht 0).trans c0))
  all_goals
    go_end0
    refine ⟨rfl, ?_⟩
    have ht2 := (SAt.heap_eq (w' := w.drew) h (by rfl)).ring ht
    have e : noteY y a b = { y with first := putF 16 y.first y.l, l := putL 16 y.l (a', b') } := by unfold noteY hd; rw [HA.out, HB.out]
    rw [e]
    exact ht2.heap rfl rfl rfl rfl

theorem noteY_ok {y : Y} (h : Ok y) (a b : Int) (hf : y.first + y.l.length ≤ 2305843009213693951) : Ok (noteY y a b) ∧ (noteY y a b).first + (noteY y a b).l.length = y.first + y.l.length + 1 := by
  obtain ⟨o1, o2, o3, o4, o5, o6, o7⟩ := h
  have ha := hd_bd a
  have hb := hd_bd b
  unfold noteY putF putL
  by_cases c : (y.l.length : Int) = 16
  · rw [if_pos c, if_pos c]
    refine ⟨⟨by dsimp only; omega, by simp; omega, by simp; omega, ?_, o5, o6, o7⟩, by simp; omega⟩
    intro x hx
    simp only [List.mem_append, List.mem_singleton] at hx
    rcases hx with hx | rfl
    · exact o4 x (List.mem_of_mem_drop hx)
    · exact ⟨ha, hb⟩
  · rw [if_neg c, if_neg c]
    refine ⟨⟨o1, by simp; omega, by simp; omega, ?_, o5, o6, o7⟩, by simp; omega⟩
    intro x hx
    simp only [List.mem_append, List.mem_singleton] at hx
    rcases hx with hx | rfl
    · exact o4 x hx
    · exact ⟨ha, hb⟩

set_option maxHeartbeats 400000 in
theorem notes_any (w : World) (s : S) (y : Y) (h : SAt w s y) :
    Calls Try.prog 97 #[.pointer (some ⟨s.q, 0, none⟩)] w fun e w' => e = .returned (.int .i64 y.l.length) ∧ w = w' := by
  obtain ⟨⟨c0, c1, c2, c3⟩, f1, f2, f3⟩ := h.cells
  have p := Lib.hid (RingNote.len_any w s.r 16 y.first s.sv y.l h.2)
  go_enter Try.func97, Try.ntmps97
  go_wp2_with fail
  refine p.out.mono ?_
  rintro e w' ⟨rfl, rfl⟩
  go_wp2_with fail
  go_ret
  exact ⟨rfl, rfl⟩
set_option maxHeartbeats 400000 in
theorem waits_any (w : World) (s : S) (y : Y) (h : SAt w s y) :
    Calls Try.prog 98 #[.pointer (some ⟨s.q, 0, none⟩)] w fun e w' => e = .returned (.int .i64 y.waits) ∧ w = w' := by
  obtain ⟨⟨c0, c1, c2, c3⟩, f1, f2, f3⟩ := h.cells
  go_enter Try.func98, Try.ntmps98
  go_wp2
  go_ret
  exact ⟨rfl, rfl⟩
set_option maxHeartbeats 400000 in
theorem heldn_any (w : World) (s : S) (y : Y) (h : SAt w s y) :
    Calls Try.prog 31 #[.pointer (some ⟨s.q, 0, none⟩)] w fun e w' => e = .returned (.int .i64 y.held) ∧ w = w' := by
  obtain ⟨⟨c0, c1, c2, c3⟩, f1, f2, f3⟩ := h.cells
  go_enter Try.func31, Try.ntmps31
  go_wp2
  go_ret
  exact ⟨rfl, rfl⟩
set_option maxHeartbeats 400000 in
theorem clear_any (w : World) (s : S) (y : Y) (h : SAt w s y) :
    Calls Try.prog 34 #[.pointer (some ⟨s.q, 0, none⟩)] w fun e w' => e = .returned (.tuple #[]) ∧ TurnedS w s { y with first := 0, l := [] } w' := by
  obtain ⟨⟨c0, c1, c2, c3⟩, f1, f2, f3⟩ := h.cells
  have p := Lib.hid (RingNote.reset_any w s.r 16 y.first 0 s.sv y.l h.2)
  go_enter Try.func34, Try.ntmps34
  go_wp2_with fail
  refine p.out.mono ?_
  rintro e w' ⟨rfl, ht⟩
  go_wp2_with fail
  go_end0
  exact ⟨rfl, h.ring ht⟩
set_option maxHeartbeats 400000 in
theorem new_any (w : World) :
    Calls Try.prog 27 #[] w fun e w' => ∃ s : S, e = .returned (.pointer (some ⟨s.q, 0, none⟩)) ∧ SAt w' s ⟨0, [], 0, 0, 0⟩ ∧ Below w.heap.size w w' ∧ ∀ k, fpS s k → w.heap.size ≤ k := by
  go_enter Try.func27, Try.ntmps27
  go_wp2_with fail
  refine (RingNote.new_ok 16 _ (by omega) (by omega)).mono ?_
  rintro e w1 ⟨rfl, rfl⟩
  go_wp2_with fail
  go_ret
  refine ⟨⟨w.heap.size + 1, w.heap.size, .slice none 0 0⟩, rfl, ⟨?_, (RingNote.at_new w 16).alloc _⟩, ((Below.refl _ w).alloc (Nat.le_refl _) _).alloc (by simp) _, ?_⟩
  · have := Blk.new (w.alloc (.cells #[.int .i64 16, .int .i64 0, .slice none 0 0] 198)) 137 #[.pointer (some ⟨w.heap.size, 0, none⟩), .int .i64 0, .int .i64 0, .int .i64 0]
    simpa using this
  · rintro k (e | e | e)
    · dsimp only at e; omega
    · dsimp only at e; omega
    · simp [Value.ownBlock] at e

/-- The sum of numbers. -/
def su (l : List Int) : Int := l.foldl (· + ·) 0
theorem su_snoc (l : List Int) (x : Int) : su (l ++ [x]) = su l + x := by simp [su, List.foldl_append]
/-- What a loop that may wrap adds up. -/
def sw (f : NT → Int) (pre : List (Int × NT)) : Int := pre.foldl (fun s x => wrap64 (s + f x.2)) 0
theorem sw_snoc (f : NT → Int) (pre : List (Int × NT)) (x : Int × NT) : sw f (pre ++ [x]) = wrap64 (sw f pre + f x.2) := by simp [sw, List.foldl_append]
theorem sw_upto (f : NT → Int) (first : Int) (l : List NT) (hb : ∀ x ∈ l, -1000 ≤ f x ∧ f x ≤ 1000) (k : Nat) (hk : k ≤ l.length) (hl : l.length ≤ 16) :
    sw f (upto (allF first l) k) = su ((l.take k).map f) ∧ -1000 * (k : Int) ≤ su ((l.take k).map f) ∧ su ((l.take k).map f) ≤ 1000 * k := by
  induction k with
  | zero => simp [sw, upto, su]
  | succ k ih =>
    obtain ⟨i1, i2, i3⟩ := ih (by omega)
    have hlt : k < l.length := by omega
    have hx : ntAt l k = l[k] := by simp [ntAt, List.getD, hlt]
    have hbx := hb l[k] (List.getElem_mem hlt)
    rw [RingNote.upto_succ, sw_snoc, i1, List.take_succ_eq_append_getElem hlt, List.map_append, List.map_cons, List.map_nil, su_snoc]
    have e : (allF first l k).2 = l[k] := hx
    rw [e]
    refine ⟨IntWalk.wrap64_in _ ⟨by omega, by omega⟩, by omega, by omega⟩
def aO (l : List NT) : Int := floorV (su (l.map Prod.fst)) l.length
def aP (l : List NT) : Int := floorV (su (l.map Prod.snd)) l.length

def AInv (w W3 : World) (pre : List (Int × NT)) (W : World) : Prop :=
  (∃ a b, Blk W w.heap.size 3 #[.int .i64 a] ∧ Blk W (w.heap.size + 1) 3 #[.int .i64 b] ∧ a = sw Prod.fst pre ∧ b = sw Prod.snd pre) ∧ KeepB (fun k => k < w.heap.size ∨ k = w.heap.size + 2) W3 W ∧ Below w.heap.size w W
theorem AInv.own {w W3 : World} (hz : W3.heap.size = w.heap.size + 3) : OwnFrom W3.heap.size (AInv w W3) := by
  rintro s W W' row ⟨⟨a, b, ha, hb, e1, e2⟩, hk, hB⟩ hg hr
  have hlt := ha.lt
  refine ⟨⟨a, b, ha.grown hg (fun e => row_ne' hr ha e.symm), hb.grown hg (fun e => row_ne' hr hb e.symm), e1, e2⟩, fun k hk2 => ?_, hB.grown hg hB.size (fun k e => by have := (hr k e).1; omega)⟩
  have h0 := hk k hk2
  have hlt3 : k < W.heap.size := by
    have : k < W3.heap.size := by rcases hk2 with e | e <;> omega
    exact (Array.getElem?_eq_some_iff.1 (h0.trans (Array.getElem?_eq_getElem this))).1
  exact (hg.block k hlt3 (fun e => by have := (hr k e.symm).1; rcases hk2 with e | e <;> omega)).trans h0

/-- The activation in a round: its variable lies in block bx. -/
def AFr (w : World) (s : S) (z : Int × NT) (bx : Nat) : Act :=
  ⟨#[.pointer (some ⟨s.q, 0, none⟩), undef, .int .i64 0, .int .i64 0, .pointer (some ⟨w.heap.size, 0, none⟩), .pointer (some ⟨w.heap.size + 1, 0, none⟩), undef, .pointer (some ⟨bx, 0, none⟩), undef, .pointer (some ⟨s.q, 0, none⟩), .pointer (some ⟨s.q, 0, none⟩), .pointer (some ⟨s.q, 0, none⟩), .pointer (some ⟨s.r, 0, none⟩),
    .func (.func 166) #[] #[.pointer (some ⟨w.heap.size + 2, 0, none⟩)], .int .i64 z.1, .agg #[.int .i64 z.2.1, .int .i64 z.2.2], undef, undef, undef, undef, undef, undef, undef, undef, undef, undef, undef, undef, undef, undef, undef, undef, undef, undef, undef], []⟩
def AAx (w : World) (s : S) (z : Int × NT) (a' : Act) (W : World) : Prop := ∃ bx, a' = AFr w s z bx ∧ Blk W bx 135 #[.int .i64 z.2.1, .int .i64 z.2.2] ∧ w.heap.size + 3 ≤ bx

set_option maxRecDepth 100000 in
set_option maxHeartbeats 8000000 in
theorem ahead_any (w : World) (s : S) (y : Y) (h : SAt w s y) (ok : Ok y) :
    Calls Try.prog 89 #[.pointer (some ⟨s.q, 0, none⟩)] w fun e w' => e = .returned (.tuple #[.int .i64 (aO y.l), .int .i64 (aP y.l)]) ∧ Below w.heap.size w w' := by
  obtain ⟨o1, o2, o3, o4, o5, o6, o7⟩ := ok
  refine calls_of_wp_marks' 9 Try.func89 rfl ?_
  simp only [Try.ntmps89, List.size_toArray, List.length_cons, List.length_nil, Nat.reduceAdd, Nat.reduceSub, Array.replicate_succ, Array.replicate_zero, List.push_toArray, List.append_toArray, List.nil_append, List.cons_append]
  obtain ⟨W1, hW1, hx, hy, hB1, hzz⟩ : ∃ W1, W1 = (w.alloc (.cells #[.int .i64 0] 3)).alloc (.cells #[.int .i64 0] 3) ∧ Blk W1 w.heap.size 3 #[.int .i64 0] ∧ Blk W1 (w.heap.size + 1) 3 #[.int .i64 0] ∧ Below w.heap.size w W1 ∧ W1.heap.size = w.heap.size + 2 := by
    refine ⟨_, rfl, (Blk.new _ _ _).alloc _, ?_, ((Below.refl _ w).alloc (Nat.le_refl _) _).alloc (by simp) _, by simp⟩
    have := Blk.new (w.alloc (.cells #[.int .i64 0] 3)) 3 #[.int .i64 0]
    simpa using this
  have hQ := h.below hB1
  obtain ⟨⟨c0, c1, c2, c3⟩, f1, f2, f3⟩ := hQ.cells
  have hltq := h.lt
  have pA := Lib.hid (RingNote.all_any W1 s.r)
  go_upto_region 2 with fail
  rw [← hW1]
  clear hW1
  go_wp2_with fail
  refine pA.out.mono ?_
  rintro e w2 ⟨rfl, rfl⟩
  have hx2 := hx.alloc (.cells #[.pointer (some ⟨s.r, 0, none⟩)] 131)
  have hy2 := hy.alloc (.cells #[.pointer (some ⟨s.r, 0, none⟩)] 131)
  have hbx2 : Blk (W1.alloc (.cells #[.pointer (some ⟨s.r, 0, none⟩)] 131)) W1.heap.size 131 #[.pointer (some ⟨s.r, 0, none⟩)] := Blk.new _ _ _
  have hA2 := hQ.below ((Below.refl _ W1).alloc (Nat.le_refl _) (.cells #[.pointer (some ⟨s.r, 0, none⟩)] 131))
  have hB2 : Below w.heap.size w (W1.alloc (.cells #[.pointer (some ⟨s.r, 0, none⟩)] 131)) := hB1.alloc (by omega) _
  have hz2' : (W1.alloc (.cells #[.pointer (some ⟨s.r, 0, none⟩)] 131)).heap.size = w.heap.size + 3 := by simp; omega
  obtain ⟨W3, hW3⟩ : ∃ W3, W3 = W1.alloc (.cells #[.pointer (some ⟨s.r, 0, none⟩)] 131) := ⟨_, rfl⟩
  rw [← hW3] at hx2 hy2 hbx2 hA2 hB2 hz2' ⊢
  rw [hzz] at hbx2
  clear hW3 c0 c1 c2 c3 f1 f2 f3
  go_wp2_with fail
  refine (wpIn_wide (n := 9)).1 ?_
  have hfpk : ∀ k, fp s.r s.sv k → k < w.heap.size := fun k hk => hltq k (.inr hk)
  refine' wpIn_rangeFunc_ownH (F := Fence.wide) (n := 9) rfl (by omega) (gf := 166) (lb := #[.pointer (some ⟨w.heap.size + 2, 0, none⟩)]) rfl trivial (enters_of Try.func166 (by kernel_rfl) rfl)
    (RingNote.all_stops 8 (by omega) (w.heap.size + 2) s.r (fun k => k < w.heap.size ∨ k = w.heap.size + 2) 16 y.first s.sv y.l W3 (fun k hk => by rcases hk with e | e <;> omega) (hbx2.cell 0) hA2.2 (fun k hk => .inl (hfpk k hk)) (.inr rfl) o1 (by omega))
    RingNote.keepB_t (RingNote.keepB_b (m := W3.heap.size) (fun k hk => by rcases hk with e | e <;> omega)) (Below.refl _ _) (fun _ => rfl)
    (AInv w W3) (fun _ _ _ => False) (AInv.own hz2') (fun _ _ _ _ _ hs _ _ => hs.elim) ⟨⟨0, 0, hx2, hy2, rfl, rfl⟩, RingNote.keepB_refl _, hB2⟩ (AAx w s) (fun z a' _ W W' row ⟨bx, e1, e2, e3⟩ hg hr => ⟨bx, e1, e2.grown hg (fun e => row_ne' hr e2 e.symm), e3⟩) ?assign ?body ?done ?stop
  case assign =>
    intro l' pre z W K hI hcont
    have hlt0 : ∀ k, (k < w.heap.size ∨ k = w.heap.size + 2) → k < W.heap.size := fun k hk => by
      have : k < W3.heap.size := by rcases hk with e | e <;> omega
      exact (Array.getElem?_eq_some_iff.1 ((hI.2.1 k hk).trans (Array.getElem?_eq_getElem this))).1
    have h2 := hlt0 _ (.inr rfl)
    have hcont := Lib.hid hcont
    dsimp only [RingNote.encs]
    gi_wp2
    refine hcont.out _ _ ((KeepsOthers.alloc W _).from _) (fun k hk => heap_old W _ (hlt0 k hk)) ((AInv.own hz2').alloc _ hI) ⟨W.heap.size, rfl, Blk.new _ _ _, by omega⟩
  case stop =>
    rintro D c pre W hD hp hx _
    exact hx.elim
  case body =>
    rintro l' pre ⟨xn, xa, xb⟩ a' W hl' hrec ⟨⟨a, b, ha, hb, e1, e2⟩, hk, hB⟩ ⟨bx, rfl, hbx, hbz⟩ hlt
    have n1 := Lib.hid (sw_snoc Prod.fst pre (xn, xa, xb))
    have n2 := Lib.hid (sw_snoc Prod.snd pre (xn, xa, xb))
    rw [← e1] at n1
    rw [← e2] at n2
    have q0 := ha.cell 0
    have q1 := hb.cell 0
    have q2 := hbx.cell 0
    have q3 := hbx.cell 1
    have g0 := ha.frozen 0
    have g1 := hb.frozen 0
    dsimp only at q2 q3 n1 n2
    unfold AFr
    clear e1 e2 hx hy hQ hx2 hy2 hbx2 hA2 hB2 hB1 pA hlt hrec
    have ne1 : ¬ bx = w.heap.size := by omega
    have ne2 : ¬ bx = w.heap.size + 1 := by omega
    dsimp only
    gi_wp2
    have hT : Touch (fun k => k = w.heap.size ∨ k = w.heap.size + 1) W ((W.setCell ⟨w.heap.size, 0, none⟩ (.int .i64 (wrap64 (a + xa)))).setCell ⟨w.heap.size + 1, 0, none⟩ (.int .i64 (wrap64 (b + xb)))) :=
      ((Touch.refl _ W).setCell (p := ⟨w.heap.size, 0, none⟩) (.inl (.inl rfl)) _).setCell (p := ⟨w.heap.size + 1, 0, none⟩) (.inl (.inr rfl)) _
    have hkp : KeepB (fun k => k < w.heap.size ∨ k = w.heap.size + 2) W ((W.setCell ⟨w.heap.size, 0, none⟩ (.int .i64 (wrap64 (a + xa)))).setCell ⟨w.heap.size + 1, 0, none⟩ (.int .i64 (wrap64 (b + xb)))) := fun k hk2 => by
      have : k < W.heap.size := by
        have h3 : k < W3.heap.size := by rcases hk2 with e | e <;> omega
        exact (Array.getElem?_eq_some_iff.1 ((hk k hk2).trans (Array.getElem?_eq_getElem h3))).1
      exact hT.block k this (fun e => by rcases hk2 with e2 | e2 <;> rcases e with e3 | e3 <;> omega)
    refine ⟨((KeepsOthers.setCell _ _ _).trans (KeepsOthers.setCell _ _ _)).from _, hkp, ⟨_, _, ?_, ?_, n1.out.symm, n2.out.symm⟩, RingNote.keepB_t hk hkp, hB.trans (hT.below hB.size (fun b hb => by rcases hb with e | e <;> omega))⟩
    · exact (ha.set_ 0 _).far (by simp) _
    · exact (hb.far (p := ⟨w.heap.size, 0, none⟩) (by simp) _).set_ 0 _
  case done =>
    rintro D ys W hD rfl ⟨⟨a, b, ha, hb, e1, e2⟩, hk, hB⟩ hKd
    obtain ⟨s1, s2, s3⟩ := sw_upto Prod.fst y.first y.l (fun x hx => (o4 x hx).1) y.l.length (Nat.le_refl _) o3
    obtain ⟨t1, t2, t3⟩ := sw_upto Prod.snd y.first y.l (fun x hx => (o4 x hx).2) y.l.length (Nat.le_refl _) o3
    rw [List.take_length] at s1 s2 s3 t1 t2 t3
    rw [s1] at e1
    rw [t1] at e2
    have b1 : -16000 ≤ a ∧ a ≤ 16000 := by rw [e1]; omega
    have b2 : -16000 ≤ b ∧ b ≤ 16000 := by rw [e2]; omega
    have eA : floorV a (y.l.length : Int) = aO y.l := by unfold aO; rw [e1]
    have eB : floorV b (y.l.length : Int) = aP y.l := by unfold aP; rw [e2]
    have hbl : w.heap.size + 2 < W.heap.size := by
      have h3 : w.heap.size + 2 < W3.heap.size := by omega
      exact (Array.getElem?_eq_some_iff.1 ((hk _ (.inr rfl)).trans (Array.getElem?_eq_getElem h3))).1
    have hSW : SAt W s y := by
      refine ⟨?_, hA2.2.keep hk (fun k hk => .inl (hfpk k hk))⟩
      exact (hk s.q (.inl (hltq _ (.inl rfl)))).trans hA2.1
    obtain ⟨⟨c0, c1, c2, c3⟩, f1, f2, f3⟩ := hSW.cells
    have q0 := ha.cell 0
    have q1 := hb.cell 0
    have pl := Lib.hid (RingNote.len_any W s.r 16 y.first s.sv y.l hSW.2)
    have pf1 := fun W => wfloor_any W a (y.l.length : Int) (by omega) (by omega) (by omega) (by omega)
    have pf2 := fun W => wfloor_any W b (y.l.length : Int) (by omega) (by omega) (by omega) (by omega)
    rw [eA] at pf1
    rw [eB] at pf2
    have pf1 := Lib.hid pf1
    have pf2 := Lib.hid pf2
    clear e1 e2 s1 s2 s3 t1 t2 t3 eA eB hx hy hQ hx2 hy2 hbx2 hA2 hB2 hB1 pA ha hb
    dsimp only
    go_wp2_with fail
    refine pl.out.mono ?_
    rintro e w4 ⟨rfl, rfl⟩
    go_wp2_with fail
    go_region_held3 (fun w' => w'.cell? ⟨w.heap.size, 0, none⟩ = some (.int .i64 a) ∧ w'.cell? ⟨w.heap.size + 1, 0, none⟩ = some (.int .i64 b)) (first | go_keep | exact ⟨q0, q1⟩)
      (first
        | (go_at_call_of 90 (a); refine (pf1.out _).mono ?_; rintro e w' ⟨rfl, rfl⟩)
        | (go_at_call_of 90 (b); refine (pf2.out _).mono ?_; rintro e w' ⟨rfl, rfl⟩))
    all_goals
      go_wp2_with fail
      refine ⟨by simp, .inl ⟨_, _, rfl, run_takeDeferred (show W.drew.heap[D]? = _ from hKd), ?_⟩⟩
      have hbd : Below w.heap.size w (W.drew.putObj D (.deferred none)) := hB.drew.trans (belowK_b (w := W3) (by omega) _ D _ _ (by omega) (show W.drew.heap[D]? = _ from hKd) rfl rfl)
      refine ⟨.tuple #[.int .i64 (aO y.l), .int .i64 (aP y.l)], ?_, rfl, hbd⟩
      simp [results, Try.results89, go_sem]

theorem floorV_bd {a b : Int} (h1 : -16000 ≤ a) (h2 : a ≤ 16000) (hb : 0 ≤ b) : -16000 ≤ floorV a b ∧ floorV a b ≤ 16000 := by
  unfold floorV
  by_cases h0 : b = 0
  · rw [if_pos h0]; omega
  · rw [if_neg h0]
    have hp : 0 < b := by omega
    by_cases ha : 0 ≤ a
    · have := Int.ediv_le_self b ha
      have := Int.ediv_nonneg ha hb
      omega
    · have h3 : a ≤ a / b := by
        refine (Int.le_ediv_iff_mul_le hp).2 ?_
        have : a * b ≤ a * 1 := Int.mul_le_mul_of_nonpos_left (by omega) (by omega)
        omega
      have h4 : a / b < 0 := Int.ediv_neg_of_neg_of_pos (by omega) hp
      omega
theorem aO_bd {y : Y} (ok : Ok y) : (-16000 ≤ aO y.l ∧ aO y.l ≤ 16000) ∧ (-16000 ≤ aP y.l ∧ aP y.l ≤ 16000) := by
  obtain ⟨o1, o2, o3, o4, o5, o6, o7⟩ := ok
  obtain ⟨s1, s2, s3⟩ := sw_upto Prod.fst 0 y.l (fun x hx => (o4 x hx).1) y.l.length (Nat.le_refl _) o3
  obtain ⟨t1, t2, t3⟩ := sw_upto Prod.snd 0 y.l (fun x hx => (o4 x hx).2) y.l.length (Nat.le_refl _) o3
  rw [List.take_length] at s2 s3 t2 t3
  exact ⟨floorV_bd (by omega) (by omega) (by omega), floorV_bd (by omega) (by omega) (by omega)⟩
def waitV (l : List NT) : Int := if floorV (aO l - aP l) 2 < 2 then 0 else min (floorV (aO l - aP l) 2) 9
theorem waitV_bd (l : List NT) : 0 ≤ waitV l ∧ waitV l ≤ 9 ∧ waitV l ≠ 1 := by unfold waitV; split <;> omega

set_option maxRecDepth 100000 in
set_option maxHeartbeats 1000000 in
theorem wait_any (w : World) (s : S) (y : Y) (h : SAt w s y) (ok : Ok y) :
    Calls Try.prog 29 #[.pointer (some ⟨s.q, 0, none⟩)] w fun e w' => e = .returned (.int .i64 (waitV y.l)) ∧ Below w.heap.size w w' := by
  obtain ⟨⟨b1, b2⟩, b3, b4⟩ := aO_bd ok
  have p := Lib.hid (ahead_any w s y h ok)
  have pf := fun W => wfloor_any W (aO y.l - aP y.l) 2 (by omega) (by omega) (by omega) (by omega)
  have hw : waitV y.l = if floorV (aO y.l - aP y.l) 2 < 2 then 0 else min (floorV (aO y.l - aP y.l) 2) 9 := rfl
  generalize aO y.l = A at p pf hw b1 b2
  generalize aP y.l = B at p pf hw b3 b4
  generalize floorV (A - B) 2 = n at pf hw
  have pf := Lib.hid pf
  have HW := Lib.hid hw
  clear hw
  by_cases c : n < 2
  · go_enter Try.func29, Try.ntmps29
    go_wp2_with fail
    refine p.out.mono ?_
    rintro e w1 ⟨rfl, hb⟩
    go_wp2_with fail
    refine (pf.out _).mono ?_
    rintro e w2 ⟨rfl, rfl⟩
    go_wp2_with fail
    go_ret
    exact ⟨ret_int (by rw [HW.out, if_pos c]), hb⟩
  · obtain ⟨m, hm⟩ : ∃ m, (if 9 < n then 9 else n) = m := ⟨_, rfl⟩
    have HM := Lib.hid (show waitV y.l = m by rw [HW.out, if_neg c, ← hm]; split <;> omega)
    go_enter Try.func29, Try.ntmps29
    go_wp2_with fail
    refine p.out.mono ?_
    rintro e w1 ⟨rfl, hb⟩
    go_wp2_with fail
    refine (pf.out _).mono ?_
    rintro e w2 ⟨rfl, rfl⟩
    go_wp2_with fail
    go_ret
    exact ⟨ret_int HM.out.symm, hb⟩

def askV (y : Y) (f : Int) : Int := if f < y.next ∨ y.l.length < 16 then 0 else waitV y.l
def askY (y : Y) (f : Int) : Y := if askV y f = 0 then y else { y with next := hold (f + 30), waits := y.waits + 1, held := y.held + askV y f }

theorem TurnedS.of_below {w w' : World} {s : S} {y : Y} (h : SAt w s y) (hb : Below w.heap.size w w') : TurnedS w s y w' := ⟨s, rfl, h.below hb, Touch.of_below hb, fun _ hk => .inl hk⟩

set_option maxRecDepth 100000 in
set_option maxHeartbeats 2000000 in
theorem ask_any (w : World) (s : S) (y : Y) (f : Int) (h : SAt w s y) (ok : Ok y) (hf1 : -9223372036854775808 ≤ f) (hf2 : f ≤ 9223372036854775807) :
    Calls Try.prog 30 #[.pointer (some ⟨s.q, 0, none⟩), .int .i64 f] w fun e w' => e = .returned (.int .i64 (askV y f)) ∧ TurnedS w s (askY y f) w' := by
  obtain ⟨⟨c0, c1, c2, c3⟩, f1, f2, f3⟩ := h.cells
  have pl := Lib.hid (RingNote.len_any w s.r 16 y.first s.sv y.l h.2)
  have pw := wait_any w s y h ok
  obtain ⟨o1, o2, o3, o4, o5, o6, o7⟩ := ok
  have pa := Lib.hid (fun W => wadd_any W f 30 hf1 hf2 (by omega) (by omega))
  by_cases d1 : f < y.next
  · have e1 : askV y f = 0 := by unfold askV; rw [if_pos (.inl d1)]
    have e2 : askY y f = y := by unfold askY; rw [if_pos e1]
    rw [e1, e2]
    clear e1 e2
    go_enter Try.func30, Try.ntmps30
    go_wp2_with fail
    go_ret
    exact ⟨rfl, .of_below h (Below.refl _ _)⟩
  · have d1' : decide (f < y.next) = false := by simpa using d1
    by_cases d2 : y.l.length < 16
    · have e1 : askV y f = 0 := by unfold askV; rw [if_pos (.inr d2)]
      have e2 : askY y f = y := by unfold askY; rw [if_pos e1]
      rw [e1, e2]
      clear e1 e2
      go_enter Try.func30, Try.ntmps30
      go_wp2_with fail
      refine pl.out.mono ?_
      rintro e w1 ⟨rfl, rfl⟩
      go_wp2_with fail
      go_ret
      exact ⟨rfl, .of_below h (Below.refl _ _)⟩
    · have e0 : askV y f = waitV y.l := by unfold askV; rw [if_neg (fun e => e.elim d1 d2)]
      have hwb := waitV_bd y.l
      obtain ⟨n, hn⟩ : ∃ n, n = waitV y.l := ⟨_, rfl⟩
      rw [← hn] at pw e0 hwb
      have hAY : askY y f = if n = 0 then y else { y with next := hold (f + 30), waits := y.waits + 1, held := y.held + n } := by unfold askY; rw [e0]
      rw [e0]
      have pw := Lib.hid pw
      have HAY := Lib.hid hAY
      clear hn e0 hAY
      obtain ⟨hw1, hw2, hw3⟩ := hwb
      by_cases d3 : n = 0
      · subst d3
        go_enter Try.func30, Try.ntmps30
        go_wp2_with fail
        refine pl.out.mono ?_
        rintro e w1 ⟨rfl, rfl⟩
        go_wp2_with fail
        refine pw.out.mono ?_
        rintro e w1 ⟨rfl, hb⟩
        go_wp2_with fail
        go_ret
        exact ⟨rfl, by rw [HAY.out, if_pos (by first | rfl | trivial)]; exact .of_below h hb⟩
      · have d3' : (n == 0) = false := by simpa using d3
        have HAY2 := Lib.hid (HAY.out.trans (if_neg d3))
        clear d3 hw3
        go_enter Try.func30, Try.ntmps30
        go_wp2_with fail
        refine pl.out.mono ?_
        rintro e w1 ⟨rfl, rfl⟩
        go_wp2_with fail
        refine pw.out.mono ?_
        rintro e w1 ⟨rfl, hb⟩
        have h1 := h.below hb
        obtain ⟨⟨c0, c1, c2, c3⟩, f1, f2, f3⟩ := h1.cells
        go_wp2_with fail
        refine (pa.out _).mono ?_
        rintro e w2 ⟨rfl, rfl⟩
        generalize hold (f + 30) = H at HAY2 ⊢
        go_wp2_with fail
        go_ret
        have hne := ring_ne h1.1 h1.2
        have hT : ∀ W, Touch (fun k => k = s.q) w1 W → At W s.r 16 y.first s.sv y.l := fun W hT => h1.2.touch hT (fun k hk e => hne (e ▸ hk))
        have hT2 : Touch (fun k => k = s.q) w1 (((w1.setCell ⟨s.q, 1, none⟩ (.int .i64 H)).setCell ⟨s.q, 2, none⟩ (.int .i64 (y.waits + 1))).setCell ⟨s.q, 3, none⟩ (.int .i64 (y.held + n))) := by
          repeat (refine Touch.setCell ?_ (Or.inl (by dsimp only)) _)
          exact Touch.refl _ _
        rw [HAY2.out]
        exact ⟨rfl, s, rfl, ⟨((h1.1.set_ 1 _).set_ 2 _).set_ 3 _, hT _ hT2⟩, (Touch.of_below (S := fpS s) hb).trans hT2 (fun k hk => .inl (.inl hk)), fun _ hk => .inl hk⟩
theorem askV_bd (y : Y) (f : Int) : 0 ≤ askV y f ∧ askV y f ≤ 9 ∧ askV y f ≠ 1 := by
  have := waitV_bd y.l
  unfold askV; split <;> omega
theorem askY_ok {y : Y} (h : Ok y) (f : Int) (hw : -1000000 ≤ y.waits ∧ y.waits ≤ 1000000) (hh : -1000000 ≤ y.held ∧ y.held ≤ 1000000) : Ok (askY y f) := by
  have := askV_bd y f
  have hb := hold_bd (f + 30)
  unfold askY
  split
  · exact h
  · obtain ⟨o1, o2, o3, o4, o5, o6, o7⟩ := h
    exact ⟨o1, o2, o3, o4, hb, by dsimp only; omega, by dsimp only; omega⟩
end Tsync
end Go.Proofs.Ythdppaohagghbaa
