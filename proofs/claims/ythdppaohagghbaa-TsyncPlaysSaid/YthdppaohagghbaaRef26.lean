/-
  The walks of backstayref26: mean, Ahead, Wait, Ask, Note. Conditions: lists of at most sixteen numbers within bounds.
-/
import Derived.Test.YthdppaohagghbaaTsyncLaw2
namespace Go.Proofs.Ythdppaohagghbaa.Ref26
open Go.RowKit
open Num
open Tsync (su su_snoc hd hd_bd rheld_any floorV_bd)
set_option linter.all false

/-- A list of numbers at a slice. -/
def L (w : World) (v : Value) (l : List Int) : Prop := ∃ a c, v = .slice a l.length c ∧ l.length ≤ c ∧ Row .i64 w a l.length l
theorem L.below {w w' : World} {v : Value} {l : List Int} (h : L w v l) (hb : Below w.heap.size w w') : L w' v l := by
  obtain ⟨a, c, e, hc, hr⟩ := h
  exact ⟨a, c, e, hc, hr.below hb⟩
theorem L.nil (w : World) : L w (.slice none 0 0) [] := ⟨none, 0, rfl, Nat.le_refl _, rfl, fun h => by simp at h⟩
theorem L.of_on {w : World} {v : Value} {l : List Int} (h : On w 3 1 v l.length (l.map (.int .i64))) : L w v l := by
  rcases h.form with ⟨rfl, h0, hx⟩ | ⟨g, cap, rfl, hnc, hcm, hown, hlt, hc, hf⟩
  · have : l = [] := List.eq_nil_of_length_eq_zero h0
    subst this
    exact L.nil w
  · exact ⟨_, cap, rfl, hnc, rfl, fun _ => ⟨g, 0, rfl, hlt, fun j hj => by rw [Nat.zero_add]; exact hc j _ (by simp [nth, List.getD, hj])⟩⟩
theorem L.tail_ {w : World} {g c : Nat} {l : List Int} (h : On w 3 1 (.slice (some ⟨g, 0, none⟩) l.length c) l.length (l.map (.int .i64))) (hl : 1 < l.length) (hc : l.length ≤ c) : L w (.slice (some ⟨g, 1, none⟩) (l.length - 1) (c - 1)) (l.drop 1) := by
  rcases h.form with ⟨e, _⟩ | ⟨g', cap, e, hnc, hcm, hown, hlt, hcell, hf⟩
  · cases e
  · cases e
    have e2 : (l.drop 1).length = l.length - 1 := by simp
    refine ⟨_, c - 1, by rw [e2], by rw [e2]; omega, rfl, fun _ => ⟨g, 1, rfl, hlt, fun j hj => ?_⟩⟩
    rw [e2] at hj
    rw [hcell (1 + j) (.int .i64 (nth (l.drop 1) j)) ?_]
    simp [nth, List.getD, Nat.add_comm 1 j]
    rw [List.getElem?_eq_getElem (by omega)]
    rfl
theorem src_of {w : World} {a : Option Addr} {l : List Int} (h : Row .i64 w a l.length l) (o : Obj) : Src (w.alloc o) a l.length (l.map (Value.int .i64)) := by
  by_cases h0 : l.length = 0
  · have : l = [] := List.eq_nil_of_length_eq_zero h0
    subst this
    exact .inl ⟨rfl, rfl⟩
  · obtain ⟨b, off, rfl, hb, hc⟩ := h.2 (by omega)
    refine .inr ⟨_, rfl, fun j u hu => ?_⟩
    have hadd : (⟨b, off, none⟩ : Addr).add j = ⟨b, off + j, none⟩ := by unfold Addr.add; split <;> simp_all
    have hj : j < l.length := by
      have := (List.getElem?_eq_some_iff.1 hu).1
      simpa using this
    rw [hadd, World.cell?_of_block (a := ⟨b, off + j, none⟩) (heap_old w o hb), hc j hj, ← hu]
    simp [nth, List.getD, hj]

theorem su_take (l : List Int) (hb : ∀ x ∈ l, -1000 ≤ x ∧ x ≤ 1000) (k : Nat) (hk : k ≤ l.length) : -1000 * (k : Int) ≤ su (l.take k) ∧ su (l.take k) ≤ 1000 * k := by
  induction k with
  | zero => simp [su]
  | succ k ih =>
    have hlt : k < l.length := by omega
    have := ih (by omega)
    have hx := hb l[k] (List.getElem_mem hlt)
    rw [List.take_succ_eq_append_getElem hlt, su_snoc]
    omega
def mean (l : List Int) : Int := floorV (su l) l.length

set_option maxRecDepth 100000 in
set_option maxHeartbeats 1000000 in
theorem mean_any (w : World) (a : Option Addr) (c : Nat) (l : List Int) (h : Row .i64 w a l.length l) (hl : l.length ≤ 16) (hb : ∀ x ∈ l, -1000 ≤ x ∧ x ≤ 1000) :
    Calls Try.prog 142 #[.slice a l.length c] w fun e w' => e = .returned (.int .i64 (mean l)) ∧ w = w' := by
  have hs := su_take l hb l.length (Nat.le_refl _)
  rw [List.take_length] at hs
  have pf := rfloor_any w (su l) (l.length : Int) (by omega) (by omega) (by omega) (by omega)
  have hm : floorV (su l) l.length = mean l := rfl
  rw [hm] at pf
  have pf := Lib.hid pf
  clear hm
  go_enter Try.func142, Try.ntmps142
  go_wp2_with fail
  go_loop [3, 4] (fun n i => ∃ k : Nat, k ≤ l.length ∧ i = .int .i64 k ∧ n = .int .i64 (su (l.take k))) (fun _ i => l.length - (intOf i).toNat)
  case atStart => exact ⟨0, Nat.zero_le _, rfl, rfl⟩
  case round =>
    obtain ⟨k, hk, rfl, rfl⟩ := hrel
    obtain ⟨s1, s2⟩ := su_take l hb k hk
    by_cases hlt : k < l.length
    · obtain ⟨g, off, rfl, hg, hc⟩ := h.2 (by omega)
      have hcj := hc k hlt
      have hx := hb l[k] (List.getElem_mem hlt)
      have hn : nth l k = l[k] := by simp [nth, List.getD, hlt]
      rw [hn] at hcj
      have HS := Lib.hid (show su (l.take (k + 1)) = su (l.take k) + l[k] by rw [List.take_succ_eq_append_getElem hlt, su_snoc])
      have i1 : (0 : Int) ≤ (k : Int) := by omega
      have i2 : (k : Int) < (l.length : Int) := by omega
      clear hc hn
      generalize l[k] = x at hcj hx HS
      generalize su (l.take k) = t at s1 s2 HS ⊢
      obtain ⟨x1, x2⟩ := hx
      go_wp2_with fail
      go_round
      case rel => exact ⟨k + 1, by omega, by go_num, by rw [HS.out]⟩
      case measure => simp [intOf]; omega
    · obtain rfl : k = l.length := by omega
      rw [List.take_length]
      go_wp2_with fail
      refine pf.out.mono ?_
      rintro e w' ⟨rfl, rfl⟩
      go_wp2_with fail
      go_ret
      exact ⟨rfl, rfl⟩

/-- The document's notes. -/
structure R where
  O : List Int
  P : List Int
  next : Int
  waits : Int
  held : Int
def rc (o p : Value) (x : R) : Array Value := #[o, p, .int .i64 x.next, .int .i64 x.waits, .int .i64 x.held]
def rv (o p : Value) (x : R) : Value := .agg (rc o p x)
def RAt (w : World) (o p : Value) (x : R) : Prop := L w o x.O ∧ L w p x.P
def OkR (x : R) : Prop := x.O.length ≤ 16 ∧ x.P.length ≤ 16 ∧ (∀ z ∈ x.O, -1000 ≤ z ∧ z ≤ 1000) ∧ (∀ z ∈ x.P, -1000 ≤ z ∧ z ≤ 1000)
theorem mean_bd {l : List Int} (hl : l.length ≤ 16) (hb : ∀ x ∈ l, -1000 ≤ x ∧ x ≤ 1000) : -16000 ≤ mean l ∧ mean l ≤ 16000 := by
  have hs := su_take l hb l.length (Nat.le_refl _)
  rw [List.take_length] at hs
  exact floorV_bd (by omega) (by omega) (by omega)

set_option maxRecDepth 100000 in
set_option maxHeartbeats 1000000 in
theorem ahead_any (w : World) (o p : Value) (x : R) (h : RAt w o p x) (ok : OkR x) :
    Calls Try.prog 96 #[rv o p x] w fun e w' => e = .returned (.tuple #[.int .i64 (mean x.O), .int .i64 (mean x.P)]) ∧ Below w.heap.size w w' := by
  obtain ⟨k1, k2, k3, k4⟩ := ok
  obtain ⟨⟨a, c, rfl, hc, hr⟩, ⟨b, d, rfl, hd', hr2⟩⟩ := h
  obtain ⟨W1, hW1, hbx, hB⟩ : ∃ W1, W1 = w.alloc (.cells (rc (.slice a x.O.length c) (.slice b x.P.length d) x) 59) ∧ Blk W1 w.heap.size 59 (rc (.slice a x.O.length c) (.slice b x.P.length d) x) ∧ Below w.heap.size w W1 := ⟨_, rfl, Blk.new _ _ _, (Below.refl _ w).alloc (Nat.le_refl _) _⟩
  have q0 := hbx.cell 0
  have q1 := hbx.cell 1
  dsimp only [rc] at q0 q1
  have p1 := Lib.hid (fun W (hW : Below W1.heap.size W1 W) => mean_any W a c x.O ((hr.below hB).below hW) k1 k3)
  have p2 := Lib.hid (fun W (hW : Below W1.heap.size W1 W) => mean_any W b d x.P ((hr2.below hB).below hW) k2 k4)
  unfold rv rc
  unfold rc at hW1
  go_enter Try.func96, Try.ntmps96
  go_upto_region 1 with fail
  rw [← hW1]
  clear hW1
  go_region_held3 (fun w' => w'.cell? ⟨w.heap.size, 0, none⟩ = some (.slice a x.O.length c) ∧ w'.cell? ⟨w.heap.size, 1, none⟩ = some (.slice b x.P.length d)) (first | go_keep | exact ⟨q0, q1⟩)
    (first
      | (go_at_call_of 142 (a); refine (p1.out _ (by exact (Below.refl _ _).drew)).mono ?_; rintro e w' ⟨rfl, rfl⟩)
      | (go_at_call_of 142 (b); refine (p2.out _ (by exact (Below.refl _ _).drew)).mono ?_; rintro e w' ⟨rfl, rfl⟩))
  all_goals
    go_wp2_with fail
    go_ret2
    exact ⟨rfl, hB.drew⟩

def waitR (x : R) : Int := if floorV (mean x.O - mean x.P) 2 < 2 then 0 else min (floorV (mean x.O - mean x.P) 2) 9
theorem waitR_bd (x : R) : 0 ≤ waitR x ∧ waitR x ≤ 9 := by unfold waitR; split <;> omega

set_option maxRecDepth 100000 in
set_option maxHeartbeats 1000000 in
theorem wait_any (w : World) (o p : Value) (x : R) (h : RAt w o p x) (ok : OkR x) :
    Calls Try.prog 94 #[rv o p x] w fun e w' => e = .returned (.int .i64 (waitR x)) ∧ Below w.heap.size w w' := by
  obtain ⟨k1, k2, k3, k4⟩ := ok
  obtain ⟨⟨a, c, rfl, hc, hr⟩, ⟨b, d, rfl, hd', hr2⟩⟩ := h
  obtain ⟨W1, hW1, hbx, hB⟩ : ∃ W1, W1 = w.alloc (.cells (rc (.slice a x.O.length c) (.slice b x.P.length d) x) 59) ∧ Blk W1 w.heap.size 59 (rc (.slice a x.O.length c) (.slice b x.P.length d) x) ∧ Below w.heap.size w W1 := ⟨_, rfl, Blk.new _ _ _, (Below.refl _ w).alloc (Nat.le_refl _) _⟩
  have q0 := hbx.cell 0
  have q1 := hbx.cell 1
  dsimp only [rc] at q0 q1
  have p1 := fun W (hW : Below W1.heap.size W1 W) => mean_any W a c x.O ((hr.below hB).below hW) k1 k3
  have p2 := fun W (hW : Below W1.heap.size W1 W) => mean_any W b d x.P ((hr2.below hB).below hW) k2 k4
  obtain ⟨m1, m2⟩ := mean_bd k1 k3
  obtain ⟨m3, m4⟩ := mean_bd k2 k4
  have pf := fun W => rfloor_any W (mean x.O - mean x.P) 2 (by omega) (by omega) (by omega) (by omega)
  have hw : waitR x = if floorV (mean x.O - mean x.P) 2 < 2 then 0 else min (floorV (mean x.O - mean x.P) 2) 9 := rfl
  generalize mean x.O = A at p1 pf hw m1 m2
  generalize mean x.P = B at p2 pf hw m3 m4
  generalize floorV (A - B) 2 = n at pf hw
  have hw1 : IntKind.i64.wrap (A - B) = A - B := IntWalk.i64_in _ (by omega)
  have p1 := Lib.hid p1
  have p2 := Lib.hid p2
  have pf := Lib.hid pf
  obtain ⟨m, hm⟩ : ∃ m, (if 9 < n then 9 else n) = m := ⟨_, rfl⟩
  have HW : (n < 2 ∧ Hid (waitR x = 0)) ∨ (¬ n < 2 ∧ Hid (waitR x = m)) := by
    by_cases c : n < 2
    · exact .inl ⟨c, Lib.hid (by rw [hw, if_pos c])⟩
    · exact .inr ⟨c, Lib.hid (by rw [hw, if_neg c, ← hm]; split <;> omega)⟩
  have HM := Lib.hid hm
  clear hw hm
  unfold rv rc
  unfold rc at hW1
  go_enter Try.func94, Try.ntmps94
  go_upto_region 1 with fail
  rw [← hW1]
  clear hW1
  go_cut [3] (fun nv wx => nv = .int .i64 n ∧ Below w.heap.size w wx)
  case first =>
    go_region_held3 (fun w' => w'.cell? ⟨w.heap.size, 0, none⟩ = some (.slice a x.O.length c) ∧ w'.cell? ⟨w.heap.size, 1, none⟩ = some (.slice b x.P.length d)) (first | go_keep | exact ⟨q0, q1⟩)
      (first
        | (go_at_call_of 142 (a); refine (p1.out _ (by exact (Below.refl _ _).drew)).mono ?_; rintro e w' ⟨rfl, rfl⟩)
        | (go_at_call_of 142 (b); refine (p2.out _ (by exact (Below.refl _ _).drew)).mono ?_; rintro e w' ⟨rfl, rfl⟩)
        | (go_at_call 63; refine (pf.out _).mono ?_; rintro e w' ⟨rfl, rfl⟩))
    all_goals
      go_wp2_with fail
      go_meet
      exact ⟨rfl, hB.drew⟩
  case rest =>
    obtain ⟨rfl, hbw⟩ := hcut
    have hm := HM.out
    clear hw1
    rcases HW with ⟨c, HE⟩ | ⟨c, HE⟩
    · clear hm
      go_wp2_with fail
      go_ret
      exact ⟨ret_int HE.out.symm, hbw⟩
    · go_wp2_with fail
      go_ret
      exact ⟨ret_int HE.out.symm, hbw⟩

/-- The block that a slice's elements lie in. -/
abbrev slBlk (v : Value) : Option Nat := v.ownBlock
/-- What a function hands back where the lists stay where they lay. -/
def RTs (w : World) (o p : Value) (x : R) (f : Value → Value) (e : Ending) (w' : World) : Prop := e = .returned (f (rv o p x)) ∧ RAt w' o p x ∧ Below w.heap.size w w'
/-- What a function hands back where the lists are laid anew. -/
def RTn (w : World) (x : R) (e : Ending) (w' : World) : Prop := ∃ o p, e = .returned (rv o p x) ∧ RAt w' o p x ∧ Below w.heap.size w w' ∧ (∀ k, slBlk o = some k → w.heap.size + 2 ≤ k) ∧ (∀ k, slBlk p = some k → w.heap.size + 2 ≤ k)

def askR (x : R) (f : Int) : Int := if f < x.next ∨ x.O.length < 16 ∨ waitR x = 0 then 0 else waitR x
def askX (x : R) (f : Int) : R := if f < x.next ∨ x.O.length < 16 ∨ waitR x = 0 then x else { x with next := hold (f + 30), waits := x.waits + 1, held := x.held + waitR x }
def zc : Array Value := #[.slice none 0 0, .slice none 0 0, .int .i64 0, .int .i64 0, .int .i64 0]
theorem boxes (w : World) (cs : Array Value) : ∃ W1, W1 = (w.alloc (.cells cs 59)).alloc (.cells zc 59) ∧ Blk W1 w.heap.size 59 cs ∧ Blk W1 (w.heap.size + 1) 59 zc ∧ Below w.heap.size w W1 ∧ W1.heap.size = w.heap.size + 2 := by
  refine ⟨_, rfl, (Blk.new _ _ _).alloc _, ?_, ((Below.refl _ w).alloc (Nat.le_refl _) _).alloc (by simp) _, by simp⟩
  have := Blk.new (w.alloc (.cells cs 59)) 59 zc
  simpa using this
theorem frs5 {w : World} {b : Nat} {t : TypeId} {cs : Array Value} (h : Blk w b t cs) : w.frozen? ⟨b, 0, none⟩ = false ∧ w.frozen? ⟨b, 1, none⟩ = false ∧ w.frozen? ⟨b, 2, none⟩ = false ∧ w.frozen? ⟨b, 3, none⟩ = false ∧ w.frozen? ⟨b, 4, none⟩ = false :=
  ⟨h.frozen 0, h.frozen 1, h.frozen 2, h.frozen 3, h.frozen 4⟩
theorem cells5 {w : World} {b : Nat} {o p : Value} {x : R} (h : Blk w b 59 (rc o p x)) : w.cell? ⟨b, 0, none⟩ = some o ∧ w.cell? ⟨b, 1, none⟩ = some p ∧ w.cell? ⟨b, 2, none⟩ = some (.int .i64 x.next) ∧ w.cell? ⟨b, 3, none⟩ = some (.int .i64 x.waits) ∧ w.cell? ⟨b, 4, none⟩ = some (.int .i64 x.held) :=
  ⟨h.cell 0, h.cell 1, h.cell 2, h.cell 3, h.cell 4⟩
theorem zcells {w : World} {b : Nat} (h : Blk w b 59 zc) : w.cell? ⟨b, 0, none⟩ = some (.slice none 0 0) ∧ w.cell? ⟨b, 1, none⟩ = some (.slice none 0 0) ∧ w.cell? ⟨b, 2, none⟩ = some (.int .i64 0) ∧ w.cell? ⟨b, 3, none⟩ = some (.int .i64 0) ∧ w.cell? ⟨b, 4, none⟩ = some (.int .i64 0) :=
  ⟨h.cell 0, h.cell 1, h.cell 2, h.cell 3, h.cell 4⟩

set_option maxRecDepth 100000 in
set_option maxHeartbeats 2000000 in
theorem ask_any (w : World) (o p : Value) (x : R) (f : Int) (h : RAt w o p x) (ok : OkR x) (hf1 : -9223372036854775808 ≤ f) (hf2 : f ≤ 9223372036854775807) (hw : -1000000 ≤ x.waits ∧ x.waits ≤ 1000000) (hh : -1000000 ≤ x.held ∧ x.held ≤ 1000000) :
    Calls Try.prog 33 #[rv o p x, .int .i64 f] w fun e w' => RTs w o p (askX x f) (fun q => .tuple #[q, .int .i64 (askR x f)]) e w' := by
  obtain ⟨W1, hW1, hbx, hrs, hB, hz⟩ := boxes w (rc o p x)
  have h1 : RAt W1 o p x := ⟨h.1.below hB, h.2.below hB⟩
  have pw := wait_any W1 o p x h1 ok
  have hwb := waitR_bd x
  have pa := Lib.hid (fun W => Num.add_any W f 30 hf1 hf2 (by omega) (by omega))
  have heA : askR x f = if f < x.next ∨ x.O.length < 16 ∨ waitR x = 0 then 0 else waitR x := rfl
  have heX : askX x f = if f < x.next ∨ x.O.length < 16 ∨ waitR x = 0 then x else { x with next := hold (f + 30), waits := x.waits + 1, held := x.held + waitR x } := rfl
  have hend : ∀ (x' : R) (r : Int) (W W' : World), askX x f = x' → askR x f = r → x'.O = x.O → x'.P = x.P → Below W1.heap.size W1 W → Touch (fun b => b = w.heap.size ∨ b = w.heap.size + 1) W W' → RTs w o p (askX x f) (fun q => .tuple #[q, .int .i64 (askR x f)]) (.returned (.tuple #[rv o p x', .int .i64 r])) W' := by
    intro x' r W W' e1 e2 e3 e4 hb hT
    rw [e1, e2]
    have hb2 : Below w.heap.size w W := hB.trans (hb.mono (by omega))
    refine ⟨rfl, ?_, hb2.trans (hT.below hb2.size (fun b hb => by rcases hb with e | e <;> omega))⟩
    have hx : RAt W' o p x := by
      have hl : ∀ v l, L w v l → L W' v l := fun v l hl => by
        obtain ⟨a, c, e, hc, hr⟩ := hl
        exact ⟨a, c, e, hc, hr.below (hb2.trans (hT.below hb2.size (fun b hb => by rcases hb with e | e <;> omega)))⟩
      exact ⟨hl _ _ h.1, hl _ _ h.2⟩
    exact ⟨by rw [e3]; exact hx.1, by rw [e4]; exact hx.2⟩
  obtain ⟨⟨a, c, rfl, hc, hr⟩, ⟨b, d, rfl, hd', hr2⟩⟩ := h
  generalize waitR x = n at pw hwb heA heX
  unfold rv rc at pw
  have pw := Lib.hid pw
  have hend := Lib.hid hend
  obtain ⟨k0, k1, k2, k3, k4⟩ := cells5 hbx
  unfold rv rc
  unfold rc zc at hW1
  have hlen : (0 : Int) ≤ (x.O.length : Int) := by omega
  by_cases hc1 : f < x.next ∨ x.O.length < 16 ∨ n = 0
  · rw [if_pos hc1] at heA heX
    have HA := Lib.hid heA
    have HX := Lib.hid heX
    clear heA heX
    have hcs : (f < x.next) ∨ (¬ f < x.next ∧ (x.O.length : Int) < 16) ∨ (¬ f < x.next ∧ ¬ (x.O.length : Int) < 16 ∧ n = 0) := by omega
    clear hc1
    rcases hcs with d1 | ⟨d1, d2⟩ | ⟨d1, d2, rfl⟩
    all_goals
      try have d1' : decide (f < x.next) = false := by simpa using d1
      go_enter Try.func33, Try.ntmps33
      go_upto_region 1 with fail
      rw [← hW1]
      clear hW1
      go_wp2_with fail
      refine pw.out.mono ?_
      rintro e W2 ⟨rfl, hb2⟩
      have hbx2 := hbx.below hb2 hbx.lt
      have hrs2 := hrs.below hb2 hrs.lt
      clear k0 k1 k2 k3 k4
      obtain ⟨k0, k1, k2, k3, k4⟩ := cells5 hbx2
      obtain ⟨g0, g1, g2, g3, g4⟩ := zcells hrs2
      obtain ⟨f0, f1, f2, f3, f4⟩ := frs5 hrs2
      go_wp2_with fail
      refine bodyPost_ret (v := .tuple #[rv (.slice a x.O.length c) (.slice b x.P.length d) x, .int .i64 0]) (by simp [results, rv, rc, Try.results33, go_sem, g0, g1, g2, g3, g4]) rfl ?_
      refine hend.out x 0 W2 _ HX.out HA.out rfl rfl hb2 ?_
      repeat (refine Touch.setCell ?_ (Or.inl (by simp)) _)
      exact Touch.refl _ _
  · rw [if_neg hc1] at heA heX
    have HA := Lib.hid heA
    have HX := Lib.hid heX
    clear heA heX
    have d1 : ¬ f < x.next := fun e => hc1 (.inl e)
    have d1' : decide (f < x.next) = false := by simpa using d1
    have d2 : ¬ (x.O.length : Int) < 16 := by omega
    have d3 : (n == 0) = false := by simp; omega
    clear hc1
    go_enter Try.func33, Try.ntmps33
    go_upto_region 1 with fail
    rw [← hW1]
    clear hW1
    go_wp2_with fail
    refine pw.out.mono ?_
    rintro e W2 ⟨rfl, hb2⟩
    have hbx2 := hbx.below hb2 hbx.lt
    clear k0 k1 k2 k3 k4
    obtain ⟨k0, k1, k2, k3, k4⟩ := cells5 hbx2
    go_wp2_with fail
    refine (pa.out _).mono ?_
    rintro e W3 ⟨rfl, hb3⟩
    generalize hold (f + 30) = H at HX ⊢
    have hb23 := hb2.trans (hb3.mono hb2.size)
    have hbx3 := hbx2.below hb3 (by have := hbx2.lt; exact this)
    have hrs3 := (hrs.below hb2 hrs.lt).below hb3 (by have := (hrs.below hb2 hrs.lt).lt; exact this)
    clear k0 k1 k2 k3 k4
    obtain ⟨k0, k1, k2, k3, k4⟩ := cells5 hbx3
    obtain ⟨j0, j1, j2, j3, j4⟩ := frs5 hbx3
    obtain ⟨g0, g1, g2, g3, g4⟩ := zcells hrs3
    obtain ⟨f0, f1, f2, f3, f4⟩ := frs5 hrs3
    go_wp2_with fail
    refine bodyPost_ret (v := .tuple #[rv (.slice a x.O.length c) (.slice b x.P.length d) { x with next := H, waits := x.waits + 1, held := x.held + n }, .int .i64 n]) (by simp [results, rv, rc, Try.results33, go_sem, g0, g1, g2, g3, g4]) rfl ?_
    refine hend.out _ n W3 _ HX.out HA.out rfl rfl hb23 ?_
    repeat (refine Touch.setCell ?_ (Or.inl (by simp)) _)
    exact Touch.refl _ _
end Go.Proofs.Ythdppaohagghbaa.Ref26
