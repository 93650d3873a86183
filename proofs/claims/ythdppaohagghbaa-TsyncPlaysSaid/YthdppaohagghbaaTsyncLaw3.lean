/-
  backstaylaw26: the two stand alike; the walk of same.
-/
import Derived.Test.YthdppaohagghbaaRef26B
import Derived.Lib.QuietBelow
namespace Go.Proofs.Ythdppaohagghbaa.Tsync
open Go.RowKit Go.Sort
open RingNote (NT At fp Turned putF putL)
open Num
open Ref26 (R OkR RAt rv rc mean waitR askR askX noteX cut16)
set_option linter.all false

theorem regrown {P : Program} {f : FuncId} {args : Array Value} {v : Value} (w : World)
    (h : ∀ W, Below w.heap.size w W → Calls P f args W fun e W' => e = .returned v ∧ Below W.heap.size W W') (d : Nat) (os : Array Obj) :
    Calls P f args (grow (redrawn w d) os) fun e w'' => e = .returned v ∧ ∃ p : Regrown, w'' = grow (redrawn w p.d) p.os := Calls.regrown_of (h _ (below_regrown w d os))

/-- Both hold the same notes. -/
structure Rel (y : Y) (x : R) : Prop where
  o : x.O = y.l.map Prod.fst
  p : x.P = y.l.map Prod.snd
  next : x.next = y.next
  waits : x.waits = y.waits
  held : x.held = y.held
section
variable {y : Y} {x : R}
theorem Rel.lo (h : Rel y x) : x.O.length = y.l.length := by rw [h.o, List.length_map]
theorem Rel.lp (h : Rel y x) : x.P.length = y.l.length := by rw [h.p, List.length_map]
theorem Rel.mo (h : Rel y x) : mean x.O = aO y.l := by unfold mean aO; rw [h.lo, h.o]
theorem Rel.mp (h : Rel y x) : mean x.P = aP y.l := by unfold mean aP; rw [h.lp, h.p]
theorem Rel.wait (h : Rel y x) : waitR x = waitV y.l := by unfold waitR waitV; rw [h.mo, h.mp]
theorem Rel.ok (h : Rel y x) (ok : Ok y) : OkR x := by
  obtain ⟨o1, o2, o3, o4, o5, o6, o7⟩ := ok
  refine ⟨by rw [h.lo]; exact o3, by rw [h.lp]; exact o3, ?_, ?_⟩
  · intro z hz
    rw [h.o, List.mem_map] at hz
    obtain ⟨t, ht, rfl⟩ := hz
    exact (o4 t ht).1
  · intro z hz
    rw [h.p, List.mem_map] at hz
    obtain ⟨t, ht, rfl⟩ := hz
    exact (o4 t ht).2
theorem Rel.note (h : Rel y x) (hl : y.l.length ≤ 16) (a b : Int) : Rel (noteY y a b) (noteX x a b) := by
  have e1 : (x.O ++ [hd a]).length = y.l.length + 1 := by simp [h.lo]
  have e2 : (x.P ++ [hd b]).length = y.l.length + 1 := by simp [h.lp]
  refine ⟨?_, ?_, h.next, h.waits, h.held⟩
  · show cut16 (x.O ++ [hd a]) = (putL 16 y.l (hd a, hd b)).map Prod.fst
    unfold cut16 putL
    rw [e1]
    by_cases h16 : y.l.length = 16
    · rw [if_pos (by omega), if_pos (by omega), h.o]
      rw [List.map_append, List.map_drop, List.drop_append_of_le_length (by simp; omega)]
      rfl
    · rw [if_neg (by omega), if_neg (by omega), h.o, List.map_append]
      rfl
  · show cut16 (x.P ++ [hd b]) = (putL 16 y.l (hd a, hd b)).map Prod.snd
    unfold cut16 putL
    rw [e2]
    by_cases h16 : y.l.length = 16
    · rw [if_pos (by omega), if_pos (by omega), h.p]
      rw [List.map_append, List.map_drop, List.drop_append_of_le_length (by simp; omega)]
      rfl
    · rw [if_neg (by omega), if_neg (by omega), h.p, List.map_append]
      rfl
theorem Rel.askV (h : Rel y x) (f : Int) : askR x f = askV y f := by
  unfold askR Tsync.askV
  rw [h.wait, h.next, h.lo]
  by_cases c : f < y.next ∨ y.l.length < 16
  · rw [if_pos c, if_pos (by rcases c with c | c; exact .inl c; exact .inr (.inl c))]
  · rw [if_neg c]
    by_cases c2 : waitV y.l = 0
    · rw [if_pos (.inr (.inr c2)), c2]
    · rw [if_neg (by rintro (e | e | e); exact c (.inl e); exact c (.inr e); exact c2 e)]
theorem Rel.ask (h : Rel y x) (f : Int) : Rel (askY y f) (askX x f) := by
  have hv := h.askV f
  have hwb := waitV_bd y.l
  unfold askY askX
  by_cases c : f < x.next ∨ x.O.length < 16 ∨ waitR x = 0
  · have e0 : Tsync.askV y f = 0 := by rw [← hv, askR, if_pos c]
    rw [if_pos c, if_pos e0]
    exact h
  · have e0 : Tsync.askV y f = waitR x := by rw [← hv, askR, if_neg c]
    have hne : ¬ waitR x = 0 := fun e => c (.inr (.inr e))
    rw [if_neg c, if_neg (by rw [e0]; exact hne), e0]
    exact ⟨h.o, h.p, rfl, by show x.waits + 1 = y.waits + 1; rw [h.waits], by show x.held + _ = y.held + _; rw [h.held]⟩
end

set_option maxRecDepth 100000 in
set_option maxHeartbeats 4000000 in
theorem same_any (w : World) (s : S) (y : Y) (o p : Value) (x : R) (h : SAt w s y) (ok : Ok y) (hr : RAt w o p x) (hx : Rel y x) :
    Calls Try.prog 35 #[.pointer (some ⟨s.q, 0, none⟩), rv o p x] w fun e w' => e = .returned (.bool true) ∧ Below w.heap.size w w' := by
  have okx := hx.ok ok
  obtain ⟨W1, hW1⟩ : ∃ W1 : World, W1 = w.alloc (.cells (rc o p x) 59) := ⟨_, rfl⟩
  have hbox : Blk W1 w.heap.size 59 (rc o p x) := by rw [hW1]; exact Blk.new _ _ _
  have hB1 : Below w.heap.size w W1 := by rw [hW1]; exact (Below.refl _ w).alloc (Nat.le_refl _) _
  have hlt : w.heap.size < W1.heap.size := hbox.lt
  have hrW : ∀ W, Below W1.heap.size W1 W → RAt W o p x := fun W hb => ⟨(hr.1.below hB1).below hb, (hr.2.below hB1).below hb⟩
  have hsW : ∀ W, Below W1.heap.size W1 W → SAt W s y := fun W hb => (h.below hB1).below hb
  have cA := Lib.hid (fun W hb => ahead_any W s y (hsW W hb) ok)
  have cB := Lib.hid (fun W hb => by have := Ref26.ahead_any W o p x (hrW W hb) okx; rw [hx.mo, hx.mp] at this; exact this)
  have cN := Lib.hid (fun W3 (h3 : Below W1.heap.size W1 W3) => regrown W3 (v := .int .i64 y.l.length) (fun W hb => (notes_any W s y (hsW W (h3.trans (hb.mono h3.size)))).mono (by rintro e w' ⟨rfl, rfl⟩; exact ⟨rfl, Below.refl _ _⟩)))
  have cT := Lib.hid (fun W3 (h3 : Below W1.heap.size W1 W3) => regrown W3 (v := .int .i64 (waitV y.l)) (fun W hb => wait_any W s y (hsW W (h3.trans (hb.mono h3.size))) ok))
  have cX := Lib.hid (fun W3 (h3 : Below W1.heap.size W1 W3) => regrown W3 (v := .int .i64 (waitV y.l)) (fun W hb => by have := Ref26.wait_any W o p x (hrW W (h3.trans (hb.mono h3.size))) okx; rw [hx.wait] at this; exact this))
  have cW := Lib.hid (fun W3 (h3 : Below W1.heap.size W1 W3) => regrown W3 (v := .int .i64 y.waits) (fun W hb => (waits_any W s y (hsW W (h3.trans (hb.mono h3.size)))).mono (by rintro e w' ⟨rfl, rfl⟩; exact ⟨rfl, Below.refl _ _⟩)))
  have cH := Lib.hid (fun W3 (h3 : Below W1.heap.size W1 W3) => regrown W3 (v := .int .i64 y.held) (fun W hb => (heldn_any W s y (hsW W (h3.trans (hb.mono h3.size)))).mono (by rintro e w' ⟨rfl, rfl⟩; exact ⟨rfl, Below.refl _ _⟩)))
  obtain ⟨⟨a, c, rfl, _⟩, ⟨b, d, rfl, _⟩⟩ := hr
  have hrc : rc (.slice a x.O.length c) (.slice b x.P.length d) x = #[.slice a y.l.length c, .slice b y.l.length d, .int .i64 y.next, .int .i64 y.waits, .int .i64 y.held] := by unfold rc; rw [hx.lo, hx.lp, hx.next, hx.waits, hx.held]
  unfold rv at cB cX ⊢
  rw [hrc] at hbox hW1 cB cX ⊢
  clear hrc hrW hsW okx hx ok h
  generalize aO y.l = A at *
  generalize aP y.l = B at *
  generalize waitV y.l = v at *
  generalize y.l.length = n at *
  go_enter Try.func35, Try.ntmps35
  go_upto_region 1 with fail
  rw [← hW1]
  clear hW1
  go_wp2_with fail
  refine (cA.out _ (Below.refl _ _)).mono ?_
  rintro e W2 ⟨rfl, hb2⟩
  have hbx2 := hbox.below hb2 hbox.lt
  have q0 := hbx2.cell 0
  have q1 := hbx2.cell 1
  have q2 := hbx2.cell 2
  have q3 := hbx2.cell 3
  have q4 := hbx2.cell 4
  go_wp2_with fail
  refine (cB.out _ hb2).mono ?_
  rintro e W3 ⟨rfl, hb3⟩
  have hb13 := hb2.trans (hb3.mono hb2.size)
  have hbx3 := hbx2.below hb3 hbx2.lt
  clear q0 q1 q2 q3 q4
  have q0 := cell_regrown (hbx3.cell 0)
  have q1 := cell_regrown (hbx3.cell 1)
  have q2 := cell_regrown (hbx3.cell 2)
  have q3 := cell_regrown (hbx3.cell 3)
  have q4 := cell_regrown (hbx3.cell 4)
  have cN := Lib.hid (cN.out W3 hb13)
  have cT := Lib.hid (cT.out W3 hb13)
  have cX := Lib.hid (cX.out W3 hb13)
  have cW := Lib.hid (cW.out W3 hb13)
  have cH := Lib.hid (cH.out W3 hb13)
  go_upto_region 3 with fail
  refine wp_region_quiet_below (by kernel_rfl) (by kernel_rfl) ?_
  repeat (quiet_step (first | exact cN.out _ _ | exact cT.out _ _ | exact cX.out _ _ | exact cW.out _ _ | exact cH.out _ _))
  refine wpQuiet_nil ?_
  intro W4 hw'
  obtain ⟨⟨dq, osq⟩, hw''⟩ := hw'
  have hb4 : Below W3.heap.size W3 W4 := by rw [hw'']; exact below_regrown _ _ _
  clear hw'' cN cT cX cW cH q0 q1 q2 q3 q4
  go_wp2_with fail
  go_ret
  exact ⟨rfl, hB1.trans ((hb13.trans (hb4.mono hb13.size)).mono hB1.size)⟩
end Go.Proofs.Ythdppaohagghbaa.Tsync
