/-
  backstaylaw29.played: any script at both. Conditions: the script lies in memory.
-/
import Derived.Test.YtmceaffoffemlaaNetZ
import Derived.Test.YtmceaffoffemlaaNetY
import Derived.Test.YtmceaffoffemlaaNetOp
namespace Go.Proofs.Ytmceaffoffemlaa.Netw
open Go.RowKit
set_option linter.all false

/-- A box of a net is apart from what the document's net holds. -/
theorem DN.apart {W : World} {O : Nat → Prop} {a : Nat → Option Addr} {l c : Nat → Nat} {es : Nat → List E} {m : MN} (h : DN W O a l c es m) {g : Nat} {a' : Nat → Option Addr} {l' c' : Nat → Nat} {f1 f2 f3 : Int} (hb : Blk W g 71 (nvc a' l' c' f1 f2 f3)) : DN W (fun q => O q ∨ q = g) a l c es m := by
  refine ⟨h.lst, h.ln, h.len, fun k hk j e x he hx => ?_, fun k hk q hq e => e.elim (h.own k hk q hq) (fun e => ?_)⟩
  · obtain ⟨h1, da, dc, h2, h3⟩ := h.dat k hk j e x he hx
    refine ⟨h1, da, dc, h2, h3.1, fun hp => ?_⟩
    obtain ⟨b, off, e1, hlt, hn, hc⟩ := h3.2 hp
    refine ⟨b, off, e1, hlt, fun e => e.elim hn (fun e => ?_), hc⟩
    have c0 := hc 0 hp
    rw [e, hb.cell] at c0
    have : ∀ i, (nvc a' l' c' f1 f2 f3)[i]? ≠ some (Value.int .u8 (nth x.1 0)) := fun i => by
      match i with
      | 0 => simp [nvc]
      | 1 => simp [nvc]
      | 2 => simp [nvc]
      | 3 => simp [nvc]
      | 4 => simp [nvc]
      | 5 => simp [nvc]
      | 6 => simp [nvc]
      | i + 7 => rw [Array.getElem?_eq_none (by simp [nvc])]; simp
    exact this _ c0
  · have := (h.lst k hk).blk_ne hb (by decide)
    exact this (e ▸ hq)
/-- What a round of played's loop finds: n's net and the document's in the box g. -/
structure PI (w : World) (n g : Nat) (c0 : Int) (s : NS) (m : MN) (a : Nat → Option Addr) (l c : Nat → Nat) (es : Nat → List E) (W : World) : Prop where
  pn : PN W w.heap.size n s m
  dn : DN W (Own s n) a l c es m
  ok : MOk m c0
  box : Blk W g 71 (nvc a l c m.full m.long m.moved)
  res : Blk W w.heap.size 71 z7
  below : Below w.heap.size w W
  gs : w.heap.size < g
  no : ¬ Own s n g ∧ ¬ Own s n w.heap.size
theorem PI.below' {w W W2 : World} {n g : Nat} {c0 : Int} {s : NS} {m : MN} {a : Nat → Option Addr} {l c : Nat → Nat} {es : Nat → List E} (h : PI w n g c0 s m a l c es W) (hb : Below W.heap.size W W2) : PI w n g c0 s m a l c es W2 :=
  ⟨h.pn.below hb, h.dn.below hb, h.ok, h.box.below hb h.box.lt, h.res.below hb h.res.lt, h.below.trans (hb.mono h.below.size), h.gs, h.no⟩
def PlRes (w : World) (e : Ending) (W : World) : Prop := ∃ n s m a l c, e = .returned (.tuple #[.pointer (some ⟨n, 0, none⟩), dnv a l c m.full m.long m.moved, .bool true]) ∧ PN W w.heap.size n s m ∧ MOk m 100000 ∧ Below w.heap.size w W
theorem pl_fin {w W Wf : World} {n g : Nat} {c0 : Int} {s : NS} {m : MN} {a : Nat → Option Addr} {l c : Nat → Nat} {es : Nat → List E} {e : Ending} (h : PI w n g c0 s m a l c es W) (hc : c0 ≤ 100000) (hT : Touch (fun q => q = w.heap.size) W Wf)
    (he : e = .returned (.tuple #[.pointer (some ⟨n, 0, none⟩), dnv a l c m.full m.long m.moved, .bool true])) : PlRes w e Wf :=
  ⟨n, s, m, a, l, c, he, h.pn.touch hT (fun q hq e => h.no.2 (e ▸ hq)), h.ok.mono hc, h.below.trans (hT.below h.below.size (fun k hk => by omega))⟩
theorem pi_store {w W Wf : World} {n g : Nat} {c0 : Int} {s : NS} {m m0 : MN} {a a0 : Nat → Option Addr} {l c l0 c0' : Nat → Nat} {es : Nat → List E} (hP : PN W w.heap.size n s m) (hD : DN W (Own s n) a l c es m) (hm : MOk m c0)
    (hb : Blk W g 71 (nvc a0 l0 c0' m0.full m0.long m0.moved)) (hr : Blk W w.heap.size 71 z7) (hB : Below w.heap.size w W) (hg : w.heap.size < g) (hno : ¬ Own s n g ∧ ¬ Own s n w.heap.size)
    (hT : Touch (fun q => q = g) W Wf) (hbf : Blk Wf g 71 (nvc a l c m.full m.long m.moved)) : PI w n g c0 s m a l c es Wf :=
  ⟨hP.touch hT (fun q hq e => hno.1 (e ▸ hq)), (hD.apart hb).go (hT.mono fun q hq => .inl (.inr hq)) (fun q hq => .inl (.inl hq)), hm, hbf, hr.touch hT (by omega), hB.trans (hT.below hB.size (fun k hk => by omega)), hg, hno⟩
/-- What do leaves to played. -/
def DoneAt (w : World) (n g : Nat) (c1 : Int) (a0 : Nat → Option Addr) (l0 c0 : Nat → Nat) (m0 : MN) (v8 v9 : Value) (W : World) : Prop :=
  ∃ g8 s m a l c es, v8 = .pointer (some ⟨g8, 0, none⟩) ∧ v9 = .bool true ∧ PN W w.heap.size n s m ∧ DN W (Own s n) a l c es m ∧ MOk m c1 ∧ Blk W g8 71 (nvc a l c m.full m.long m.moved) ∧ Blk W g 71 (nvc a0 l0 c0 m0.full m0.long m0.moved) ∧
    Blk W w.heap.size 71 z7 ∧ Below w.heap.size w W ∧ (¬ Own s n g ∧ ¬ Own s n w.heap.size) ∧ g8 ≠ g ∧ g8 ≠ w.heap.size
/-- The box is laid behind the call. -/
theorem done_late {w V w3 : World} {n g : Nat} {c0 : Int} {s : NS} {m : MN} {a : Nat → Option Addr} {l c : Nat → Nat} {es : Nat → List E} {m2 : MN} {s2 : NS} {a2 : Nat → Option Addr} {l2 c2 : Nat → Nat} {es2 : Nat → List E} {c1 : Int} (h : PI w n g c0 s m a l c es V)
    (hP : PN w3 w.heap.size n s2 m2) (hD : DN w3 (Own s2 n) a2 l2 c2 es2 m2) (hm : MOk m2 c1) (hT : Touch (Own s n) V w3) (hO : ∀ q, Own s2 n q → Own s n q ∨ V.heap.size ≤ q) :
    DoneAt w n g c1 a l c m (.pointer (some ⟨w3.heap.size, 0, none⟩)) (.bool true) (w3.alloc (.cells (nvc a2 l2 c2 m2.full m2.long m2.moved) 71)) := by
  have hba : Below w3.heap.size w3 (w3.alloc (.cells (nvc a2 l2 c2 m2.full m2.long m2.moved) 71)) := (Below.refl _ _).alloc (Nat.le_refl _) _
  have hb3 : Below w.heap.size w w3 := h.below.trans (hT.below h.below.size (fun k hk => h.pn.low k hk))
  have hg := h.box.touch hT h.no.1
  have hr := h.res.touch hT h.no.2
  have zg := h.box.lt
  have zr := h.res.lt
  exact ⟨_, s2, m2, a2, l2, c2, es2, rfl, rfl, hP.below hba, hD.below hba, hm, Blk.new _ _ _, hg.alloc _, hr.alloc _, hb3.trans (hba.mono hb3.size), ⟨fun e => (hO _ e).elim h.no.1 (fun q => by omega), fun e => (hO _ e).elim h.no.2 (fun q => by omega)⟩, by have := hg.lt; omega, by have := hr.lt; omega⟩
/-- The box was laid ahead of the call. -/
theorem done_early {w V w3 Wf : World} {n g g8 : Nat} {c0 : Int} {s : NS} {m : MN} {a : Nat → Option Addr} {l c : Nat → Nat} {es : Nat → List E} {m2 : MN} {s2 : NS} {a2 : Nat → Option Addr} {l2 c2 : Nat → Nat} {es2 : Nat → List E} {c1 : Int} (h : PI w n g c0 s m a l c es V)
    (hP : PN w3 w.heap.size n s2 m2) (hD : DN w3 (Own s2 n) a2 l2 c2 es2 m2) (hm : MOk m2 c1) (hT : Touch (Own s n) V w3) (hO : ∀ q, Own s2 n q → Own s n q ∨ V.heap.size ≤ q) (h8 : Blk w3 g8 71 (nvc (fun _ => none) (fun _ => 0) (fun _ => 0) 0 0 0)) (h8o : ¬ Own s n g8) (h8l : g8 < V.heap.size) (h8g : g8 ≠ g) (h8r : g8 ≠ w.heap.size) (h8w : w.heap.size ≤ g8)
    (hTf : Touch (fun q => q = g8) w3 Wf) (hbf : Blk Wf g8 71 (nvc a2 l2 c2 m2.full m2.long m2.moved)) : DoneAt w n g c1 a l c m (.pointer (some ⟨g8, 0, none⟩)) (.bool true) Wf := by
  have hb3 : Below w.heap.size w w3 := h.below.trans (hT.below h.below.size (fun k hk => h.pn.low k hk))
  have hg := (h.box.touch hT h.no.1).touch hTf (fun e => h8g e.symm)
  have hr := (h.res.touch hT h.no.2).touch hTf (fun e => h8r e.symm)
  have zg := h.box.lt
  have zr := h.res.lt
  have h8s : ¬ Own s2 n g8 := fun e => (hO _ e).elim h8o (fun q => by omega)
  exact ⟨g8, s2, m2, a2, l2, c2, es2, rfl, rfl, hP.touch hTf (fun q hq e => h8s (e ▸ hq)), (hD.apart h8).go (hTf.mono fun q hq => .inl (.inr hq)) (fun q hq => .inl (.inl hq)), hm, hbf, hg, hr, hb3.trans (hTf.below hb3.size (fun k hk => by omega)), ⟨fun e => (hO _ e).elim h.no.1 (fun q => by omega), fun e => (hO _ e).elim h.no.2 (fun q => by omega)⟩, h8g, h8r⟩
set_option maxRecDepth 100000 in
set_option maxHeartbeats 8000000 in
theorem played_any (w : World) (x : Option Addr) (n0 cap : Nat) (ops : List OpR) (hS : Scr w x n0 ops) (hn0 : n0 ≤ maxLen) :
    Calls Try.prog 40 #[.slice x n0 cap] w (PlRes w) := by
  unfold maxLen at hn0
  have pN := Lib.hid (new_at (w.alloc (.cells z7 71)))
  have HS := Lib.hid hS
  unfold z7 at pN
  clear hS
  go_enter Try.func40, Try.ntmps40
  go_wp2_with fail
  refine pN.out.mono ?_
  rintro e w1 ⟨rfl, hN1, hB1⟩
  go_wp2_with fail
  obtain ⟨n, hn⟩ : ∃ n, n = w.heap.size + 1 := ⟨_, rfl⟩
  obtain ⟨g, hg⟩ : ∃ g, g = w1.heap.size := ⟨_, rfl⟩
  have hz1 := hB1.size
  simp only [World.size_alloc] at hz1
  have hBw1 : Below w.heap.size w w1 := ((Below.refl _ w).alloc (Nat.le_refl _) _).trans (hB1.mono (by simp))
  have hr1 : Blk w1 w.heap.size 71 z7 := Blk.below (Blk.new w _ _) hB1 (by simp)
  rw [World.size_alloc] at hN1
  have hP0 : PN w1 w.heap.size n s0 m0 := by
    rw [hn]
    exact ⟨hN1, rfl, rfl, rfl, fun _ _ => rfl, fun k hk j e x he hx => by simp [s0] at he, fun k j k' j' e e' q hk hk' hne he => by simp [s0] at he, fun q hq => by
      rcases hq with q1 | ⟨k, _, q2⟩ | ⟨k, j, e, _, he, _⟩
      · omega
      · simp [s0, Value.ownBlock] at q2
      · simp [s0] at he⟩
  have hI0 : PI w n g 0 s0 m0 (fun _ => none) (fun _ => 0) (fun _ => 0) (fun _ => []) (w1.alloc (.cells z7 71)) := by
    have hba : Below w1.heap.size w1 (w1.alloc (.cells z7 71)) := (Below.refl _ _).alloc (Nat.le_refl _) _
    have ho : ∀ q, Own s0 n q → q = n := fun q hq => by
      rcases hq with q1 | ⟨k, _, q2⟩ | ⟨k, j, e, _, he, _⟩
      · exact q1
      · simp [s0, Value.ownBlock] at q2
      · simp [s0] at he
    refine ⟨hP0.below hba, ⟨fun k _ => On.nil _ _ _, fun _ _ => rfl, fun _ _ => rfl, fun k _ j e x he => by simp at he, fun k _ q hq => by simp [Value.ownBlock] at hq⟩, m0_ok, by rw [hg]; exact Blk.new _ _ _, hr1.alloc _, hBw1.trans (hba.mono (by omega)), by have := hr1.lt; omega, fun e => by have := ho _ e; have := hN1.box.lt; omega, fun e => by have := ho _ e; omega⟩
  unfold z7 at hI0
  rw [← hn, ← hg]
  have HI0 := Lib.hid hI0
  clear hN1 hB1 hn hg hz1 hBw1 hr1 hP0 hI0 pN
  go_loopw [7] (fun iv W => ∃ (j : Nat) (s : NS) (m : MN) (a : Nat → Option Addr) (l c : Nat → Nat) (es : Nat → List E), j ≤ 40 ∧ iv = .int .i64 (j : Int) ∧ PI w n g (200 * (j : Int)) s m a l c es W) (fun iv _ => 40 - (intOf iv).toNat)
  case atStart => exact ⟨0, s0, m0, _, _, _, _, by omega, rfl, by simpa using HI0.out⟩
  case round =>
    obtain ⟨j, s, m, a, l, c, es, hj, rfl, hI⟩ := hrel
    have x0 : wr.cell? ⟨g, 0, none⟩ = some (.slice (a 0) (l 0) (c 0)) := hI.box.cell 0
    have x1 : wr.cell? ⟨g, 1, none⟩ = some (.slice (a 1) (l 1) (c 1)) := hI.box.cell 1
    have x2 : wr.cell? ⟨g, 2, none⟩ = some (.slice (a 2) (l 2) (c 2)) := hI.box.cell 2
    have x3 : wr.cell? ⟨g, 3, none⟩ = some (.slice (a 3) (l 3) (c 3)) := hI.box.cell 3
    have x4 : wr.cell? ⟨g, 4, none⟩ = some (.int .i64 m.full) := hI.box.cell 4
    have x5 : wr.cell? ⟨g, 5, none⟩ = some (.int .i64 m.long) := hI.box.cell 5
    have x6 : wr.cell? ⟨g, 6, none⟩ = some (.int .i64 m.moved) := hI.box.cell 6
    have ng1 : ¬ g = w.heap.size := by have := hI.gs; omega
    have ng2 : ¬ w.heap.size = g := by have := hI.gs; omega
    by_cases hgo : j < n0 ∧ j < 40
    · obtain ⟨g1, g2⟩ := hgo
      obtain ⟨o, ho⟩ : ∃ o, ops[j]? = some o := ⟨_, List.getElem?_eq_getElem (by rw [HS.out.1]; exact g1)⟩
      obtain ⟨sb, soff, hx, hsb, hsc⟩ := HS.out.2.2 (by omega)
      obtain ⟨c0, c1, c2, c3, c4, c5, c6⟩ := hsc j o ho
      have HX := Lib.hid hx
      subst hx
      have kc : ∀ o' v, w.cell? ⟨sb, o', none⟩ = some v → wr.cell? ⟨sb, o', none⟩ = some v := fun o' v hv => (hI.below.cell (p := ⟨sb, o', none⟩) hsb).trans hv
      have d5 := kc _ _ c5
      have i1 : (0 : Int) ≤ (j : Int) := by omega
      have i2 : (j : Int) < (n0 : Int) := by omega
      have i3 : (j : Int) < 40 := by omega
      obtain ⟨hrow, hib⟩ := HS.out.2.1 o (List.mem_of_getElem? ho)
      by_cases hbig : (3000 : Int) < (o.dl : Int)
      · have r0 := hI.res.cell 0; have r1 := hI.res.cell 1; have r2 := hI.res.cell 2; have r3 := hI.res.cell 3; have r4 := hI.res.cell 4; have r5 := hI.res.cell 5; have r6 := hI.res.cell 6
        have fr := hI.res.frozen
        unfold z7 at r0 r1 r2 r3 r4 r5 r6
        have HI := Lib.hid hI
        clear hI c0 c1 c2 c3 c4 c5 c6 hsc kc hrow HI0
        go_wp2_with fail
        go_region_held3 (fun W' => W'.cell? ⟨g, 0, none⟩ = some (.slice (a 0) (l 0) (c 0)) ∧ W'.cell? ⟨g, 1, none⟩ = some (.slice (a 1) (l 1) (c 1)) ∧ W'.cell? ⟨g, 2, none⟩ = some (.slice (a 2) (l 2) (c 2)) ∧ W'.cell? ⟨g, 3, none⟩ = some (.slice (a 3) (l 3) (c 3)) ∧ W'.cell? ⟨g, 4, none⟩ = some (.int .i64 m.full) ∧ W'.cell? ⟨g, 5, none⟩ = some (.int .i64 m.long) ∧ W'.cell? ⟨g, 6, none⟩ = some (.int .i64 m.moved)) (go_keep) (fail)
        all_goals
          go_wp2_with fail
          refine bodyPost_ret (v := .tuple #[.pointer (some ⟨n, 0, none⟩), .agg (nvc a l c m.full m.long m.moved), .bool true]) (by simp [results, Try.results40, go_sem, nvc, r0, r1, r2, r3, r4, r5, r6]) rfl ?_
          refine pl_fin HI.out (by omega) ?_ rfl
          refine Touch.drew ?_
          iterate 7 (refine Touch.setCell ?_ (by simp) _)
          exact Touch.refl _ _
      · have d0 := kc _ _ c0
        have d1 := kc _ _ c1
        have d2 := kc _ _ c2
        have d3 := kc _ _ c3
        have d4 := kc _ _ c4
        have d6 := kc _ _ c6
        have hsb2 : sb < wr.heap.size := Nat.lt_of_lt_of_le hsb hI.below.size
        have hgl := hI.box.lt
        have hrd : ∀ W, Below wr.heap.size wr W → Rd W (Own s n) o.da o.dl o.bs := fun W hb => by
          refine ⟨hrow.1, fun hp => ?_⟩
          obtain ⟨b, off, e, hlt, hc⟩ := hrow.2 hp
          have hbw : Below w.heap.size w W := hI.below.trans (hb.mono hI.below.size)
          exact ⟨b, off, e, Nat.lt_of_lt_of_le hlt hbw.size, fun ho => by have := hI.pn.low b ho; omega, fun q hq => (hbw.cell (p := ⟨b, off + q, none⟩) hlt).trans (hc q hq)⟩
        have pDo' : ∀ W, Below wr.heap.size wr W → Calls Try.prog 75 #[.pointer (some ⟨n, 0, none⟩), dnv a l c m.full m.long m.moved, .agg (opv o.k o.to_ o.by_ o.i o.bt o.da o.dl o.dc o.oft)] W (DoRes W w.heap.size n s (200 * (j : Int) + 200)) := fun W hb => by
          have h := hI.below' hb
          exact do_any W w.heap.size n s a l c es m (200 * (j : Int)) o.k o.to_ o.by_ o.i o.bt o.oft o.da o.dl o.dc o.bs h.pn h.dn h.ok (by omega) h.below.size (hrd W hb) (by omega) hib
        unfold dnv nc opv at pDo'
        have pDo := Lib.hid pDo'
        have hb0 : Below wr.heap.size wr wr.drew := below_drewN (Below.refl _ _) 1
        have hb1 : Below wr.heap.size wr (wr.alloc (.cells (nvc (fun _ => none) (fun _ => 0) (fun _ => 0) 0 0 0) 71)).drew := below_drewN ((Below.refl _ _).alloc (Nat.le_refl _) _) 1
        have hnb : Blk (wr.alloc (.cells (nvc (fun _ => none) (fun _ => 0) (fun _ => 0) 0 0 0) 71)).drew wr.heap.size 71 (nvc (fun _ => none) (fun _ => 0) (fun _ => 0) 0 0 0) := Blk.drew (Blk.new _ _ _)
        have hno : ¬ Own s n wr.heap.size := fun e => by have := hI.pn.own_lt _ e; omega
        have HI := Lib.hid hI
        have HSC : Hid (∀ W, Touch (fun q => Own s n q ∨ q = wr.heap.size ∨ wr.heap.size ≤ q) wr W → W.cell? ⟨g, 0, none⟩ = some (.slice (a 0) (l 0) (c 0)) ∧ W.cell? ⟨g, 1, none⟩ = some (.slice (a 1) (l 1) (c 1)) ∧ W.cell? ⟨g, 2, none⟩ = some (.slice (a 2) (l 2) (c 2)) ∧ W.cell? ⟨g, 3, none⟩ = some (.slice (a 3) (l 3) (c 3)) ∧ W.cell? ⟨g, 4, none⟩ = some (.int .i64 m.full) ∧ W.cell? ⟨g, 5, none⟩ = some (.int .i64 m.long) ∧ W.cell? ⟨g, 6, none⟩ = some (.int .i64 m.moved) ∧ W.cell? ⟨sb, soff + j * 7, none⟩ = some (.int .i64 o.k) ∧ W.cell? ⟨sb, soff + j * 7 + 1, none⟩ = some (.int .i64 o.to_) ∧ W.cell? ⟨sb, soff + j * 7 + 2, none⟩ = some (.int .i64 o.by_) ∧ W.cell? ⟨sb, soff + j * 7 + 3, none⟩ = some (.int .i64 o.i) ∧ W.cell? ⟨sb, soff + j * 7 + 4, none⟩ = some (.int .u8 o.bt) ∧ W.cell? ⟨sb, soff + j * 7 + 5, none⟩ = some (.slice o.da o.dl o.dc) ∧ W.cell? ⟨sb, soff + j * 7 + 6, none⟩ = some (.int .i64 o.oft)) := Lib.hid (fun W hT => by
          have hng : ¬ (Own s n g ∨ g = wr.heap.size ∨ wr.heap.size ≤ g) := fun e => e.elim HI.out.no.1 (fun e => by omega)
          have hnb2 : ¬ (Own s n sb ∨ sb = wr.heap.size ∨ wr.heap.size ≤ sb) := fun e => e.elim (fun e => by have := HI.out.pn.low _ e; omega) (fun e => by omega)
          have hbx := HI.out.box.touch hT hng
          have kk : ∀ o' v, wr.cell? ⟨sb, o', none⟩ = some v → W.cell? ⟨sb, o', none⟩ = some v := fun o' v hv => (hT.cell (p := ⟨sb, o', none⟩) hsb2 hnb2).trans hv
          exact ⟨hbx.cell 0, hbx.cell 1, hbx.cell 2, hbx.cell 3, hbx.cell 4, hbx.cell 5, hbx.cell 6, kk _ _ d0, kk _ _ d1, kk _ _ d2, kk _ _ d3, kk _ _ d4, kk _ _ d5, kk _ _ d6⟩)
        have HNB := Lib.hid hnb
        have hb1' : Below wr.heap.size wr (wr.alloc (.cells #[.slice none 0 0, .slice none 0 0, .slice none 0 0, .slice none 0 0, .int .i64 0, .int .i64 0, .int .i64 0] 71)).drew := hb1
        have HB1 := Lib.hid hb1
        clear hI c0 c1 c2 c3 c4 c5 c6 hsc kc hrow HI0 hrd pDo' hnb hb1
        have tokA : True := trivial
        have h8a : wr.heap.size ≠ g := by omega
        have h8b : wr.heap.size ≠ w.heap.size := by have := HI.out.gs; omega
        go_upto_region 10 with fail
        go_cut [8, 9] (fun v8 v9 wx => DoneAt w n g (200 * (j : Int) + 200) a l c m v8 v9 wx)
        case first =>
          go_region_with (first
            | (go_at_call 75; (with_reducible refine (pDo.out _ hb0).mono ?_); rintro e w3 ⟨m2, s2, a2, l2, c2, es2, rfl, hP2, hD2, hm2, hT2, hO2⟩; unfold dnv nc; have hI2 := HI.out.below' hb0; have HS3 := Lib.hid (fun W' (hT : Touch (fun q => False) w3 W') => HSC.out W' (((Touch.of_below hb0).trans hT2 (fun k hk => .inl (.inl hk))).trans hT (fun k hk => hk.elim))); have FIN := Lib.hid (done_late hI2 hP2 hD2 hm2 hT2 hO2); clear hI2 hP2 hD2 hm2 hT2 hO2 tokA)
            | (go_at_call 75; (with_reducible refine (pDo.out _ hb1').mono ?_); rintro e w3 ⟨m2, s2, a2, l2, c2, es2, rfl, hP2, hD2, hm2, hT2, hO2⟩; unfold dnv nc; have hI2 := HI.out.below' hb1'; have HS3 := Lib.hid (fun W' (hT : Touch (fun q => False) w3 W') => HSC.out W' (((Touch.of_below hb1').trans hT2 (fun k hk => .inl (.inl hk))).trans hT (fun k hk => hk.elim))); have HS8 := Lib.hid (fun W' (hT : Touch (fun q => q = wr.heap.size) w3 W') => HSC.out W' (((Touch.of_below hb1').trans hT2 (fun k hk => .inl (.inl hk))).trans hT (fun k hk => .inl (.inr (.inl hk))))); have h8 := HNB.out.touch hT2 hno; have r0 : w3.cell? ⟨wr.heap.size, 0, none⟩ = some (.slice none 0 0) := h8.cell 0; have r1 : w3.cell? ⟨wr.heap.size, 1, none⟩ = some (.slice none 0 0) := h8.cell 1; have r2 : w3.cell? ⟨wr.heap.size, 2, none⟩ = some (.slice none 0 0) := h8.cell 2; have r3 : w3.cell? ⟨wr.heap.size, 3, none⟩ = some (.slice none 0 0) := h8.cell 3; have r4 : w3.cell? ⟨wr.heap.size, 4, none⟩ = some (.int .i64 0) := h8.cell 4; have r5 : w3.cell? ⟨wr.heap.size, 5, none⟩ = some (.int .i64 0) := h8.cell 5; have r6 : w3.cell? ⟨wr.heap.size, 6, none⟩ = some (.int .i64 0) := h8.cell 6; have f8 := h8.frozen; have FIN := Lib.hid (fun Wf => done_early (g8 := wr.heap.size) (Wf := Wf) hI2 hP2 hD2 hm2 hT2 hO2 h8 hno (by simp) h8a h8b HI.out.below.size); have H8 := Lib.hid h8; clear hI2 hP2 hD2 hm2 hT2 hO2 h8 tokA x0 x1 x2 x3 x4 x5 x6 d0 d1 d2 d3 d4 d5 d6 hb0 hb1' hsb2 hgl i1 i2 i3 hib hno))
          all_goals
            go_wp2_with fail
            go_meet
            first
              | exact FIN.out
              | (refine FIN.out _ ?_ ?_
                 · iterate 7 (refine Touch.setCell ?_ (by simp) _)
                   exact Touch.refl _ _
                 · exact ((((((H8.out.set_ 0 _).set_ 1 _).set_ 2 _).set_ 3 _).set_ 4 _).set_ 5 _).set_ 6 _)
        case rest =>
          obtain ⟨g8, s2, m2, a2, l2, c2, es2, rfl, rfl, hP2, hD2, hm2, hb8, hbg, hbr, hbw, hno2, hne1, hne2⟩ := hcut
          have y0 : wc.cell? ⟨g8, 0, none⟩ = some (.slice (a2 0) (l2 0) (c2 0)) := hb8.cell 0
          have y1 : wc.cell? ⟨g8, 1, none⟩ = some (.slice (a2 1) (l2 1) (c2 1)) := hb8.cell 1
          have y2 : wc.cell? ⟨g8, 2, none⟩ = some (.slice (a2 2) (l2 2) (c2 2)) := hb8.cell 2
          have y3 : wc.cell? ⟨g8, 3, none⟩ = some (.slice (a2 3) (l2 3) (c2 3)) := hb8.cell 3
          have y4 : wc.cell? ⟨g8, 4, none⟩ = some (.int .i64 m2.full) := hb8.cell 4
          have y5 : wc.cell? ⟨g8, 5, none⟩ = some (.int .i64 m2.long) := hb8.cell 5
          have y6 : wc.cell? ⟨g8, 6, none⟩ = some (.int .i64 m2.moved) := hb8.cell 6
          have pSm' := same_any wc w.heap.size n s2 a2 l2 c2 es2 m2 (200 * (j : Int) + 200) hP2 hD2 hm2 (by omega)
          unfold dnv nc at pSm'
          have pSm := Lib.hid pSm'
          have HP2 := Lib.hid hP2
          have HD2 := Lib.hid hD2
          have HM2 := Lib.hid hm2
          have HB8 := Lib.hid hb8
          have HBG := Lib.hid hbg
          have HBR := Lib.hid hbr
          have HBW := Lib.hid hbw
          have HNO := Lib.hid hno2
          clear pSm' hP2 hD2 hm2 hb8 hbg hbr hbw hno2 HSC HNB pDo x0 x1 x2 x3 x4 x5 x6 d0 d1 d2 d3 d4 d5 d6 hb0 hb1'
          go_wp2_with fail
          refine pSm.out.mono ?_
          rintro e w4 ⟨rfl, hb4⟩
          have k8 := HB8.out.below hb4 HB8.out.lt
          have kg := HBG.out.below hb4 HBG.out.lt
          clear y0 y1 y2 y3 y4 y5 y6
          have y0 : w4.cell? ⟨g8, 0, none⟩ = some (.slice (a2 0) (l2 0) (c2 0)) := k8.cell 0
          have y1 : w4.cell? ⟨g8, 1, none⟩ = some (.slice (a2 1) (l2 1) (c2 1)) := k8.cell 1
          have y2 : w4.cell? ⟨g8, 2, none⟩ = some (.slice (a2 2) (l2 2) (c2 2)) := k8.cell 2
          have y3 : w4.cell? ⟨g8, 3, none⟩ = some (.slice (a2 3) (l2 3) (c2 3)) := k8.cell 3
          have y4 : w4.cell? ⟨g8, 4, none⟩ = some (.int .i64 m2.full) := k8.cell 4
          have y5 : w4.cell? ⟨g8, 5, none⟩ = some (.int .i64 m2.long) := k8.cell 5
          have y6 : w4.cell? ⟨g8, 6, none⟩ = some (.int .i64 m2.moved) := k8.cell 6
          have z0 : w4.cell? ⟨g, 0, none⟩ = some (.slice (a 0) (l 0) (c 0)) := kg.cell 0
          have z1 : w4.cell? ⟨g, 1, none⟩ = some (.slice (a 1) (l 1) (c 1)) := kg.cell 1
          have z2 : w4.cell? ⟨g, 2, none⟩ = some (.slice (a 2) (l 2) (c 2)) := kg.cell 2
          have z3 : w4.cell? ⟨g, 3, none⟩ = some (.slice (a 3) (l 3) (c 3)) := kg.cell 3
          have z4 : w4.cell? ⟨g, 4, none⟩ = some (.int .i64 m.full) := kg.cell 4
          have z5 : w4.cell? ⟨g, 5, none⟩ = some (.int .i64 m.long) := kg.cell 5
          have z6 : w4.cell? ⟨g, 6, none⟩ = some (.int .i64 m.moved) := kg.cell 6
          have fg := kg.frozen
          have hgs := HI.out.gs
          have FIN := Lib.hid (fun Wf hT hbf => pi_store (Wf := Wf) (HP2.out.below hb4) (HD2.out.below hb4) HM2.out kg (HBR.out.below hb4 HBR.out.lt) (HBW.out.trans (hb4.mono HBW.out.size)) hgs HNO.out hT hbf)
          have KG := Lib.hid kg
          clear k8 kg hb4
          go_wp2_with fail
          go_roundw
          case rel =>
            refine ⟨j + 1, s2, m2, a2, l2, c2, es2, by omega, by go_num, ?_⟩
            have e200 : 200 * ((j + 1 : Nat) : Int) = 200 * (j : Int) + 200 := by push_cast; omega
            rw [e200]
            refine FIN.out _ ?_ ?_
            · iterate 7 (refine Touch.setCell ?_ (by simp) _)
              exact Touch.refl _ _
            · exact ((((((KG.out.set_ 0 _).set_ 1 _).set_ 2 _).set_ 3 _).set_ 4 _).set_ 5 _).set_ 6 _
          case measure => simp [intOf]; omega
    · have r0 := hI.res.cell 0; have r1 := hI.res.cell 1; have r2 := hI.res.cell 2; have r3 := hI.res.cell 3; have r4 := hI.res.cell 4; have r5 := hI.res.cell 5; have r6 := hI.res.cell 6
      have fr := hI.res.frozen
      unfold z7 at r0 r1 r2 r3 r4 r5 r6
      have HI := Lib.hid hI
      clear hI HI0
      have hcase : (¬ (j : Int) < (n0 : Int)) ∨ ((j : Int) < (n0 : Int) ∧ ¬ (j : Int) < 40) := by omega
      clear hgo
      rcases hcase with q1 | ⟨q1, q2⟩
      all_goals
        go_wp2_with fail
        go_region_held3 (fun W' => W'.cell? ⟨g, 0, none⟩ = some (.slice (a 0) (l 0) (c 0)) ∧ W'.cell? ⟨g, 1, none⟩ = some (.slice (a 1) (l 1) (c 1)) ∧ W'.cell? ⟨g, 2, none⟩ = some (.slice (a 2) (l 2) (c 2)) ∧ W'.cell? ⟨g, 3, none⟩ = some (.slice (a 3) (l 3) (c 3)) ∧ W'.cell? ⟨g, 4, none⟩ = some (.int .i64 m.full) ∧ W'.cell? ⟨g, 5, none⟩ = some (.int .i64 m.long) ∧ W'.cell? ⟨g, 6, none⟩ = some (.int .i64 m.moved)) (go_keep) (fail)
        all_goals
          go_wp2_with fail
          refine bodyPost_ret (v := .tuple #[.pointer (some ⟨n, 0, none⟩), .agg (nvc a l c m.full m.long m.moved), .bool true]) (by simp [results, Try.results40, go_sem, nvc, r0, r1, r2, r3, r4, r5, r6]) rfl ?_
          refine pl_fin HI.out (by omega) ?_ rfl
          refine Touch.drew ?_
          iterate 7 (refine Touch.setCell ?_ (by simp) _)
          exact Touch.refl _ _
end Go.Proofs.Ytmceaffoffemlaa.Netw
