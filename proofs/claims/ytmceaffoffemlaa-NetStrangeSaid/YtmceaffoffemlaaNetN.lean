/-
  net: Oldest; what the law's same asks. Conditions: numbers without overflow.
-/
import Derived.Test.YtmceaffoffemlaaNetM
import Derived.Test.YtmceaffoffemlaaNetG
namespace Go.Proofs.Ytmceaffoffemlaa.Netw
open Go.RowKit Go.Shelf
set_option linter.all false
attribute [local go_sem] Oper.semAt_some

theorem calls_of_wp_marks {P : Program} {f : FuncId} {fn : Func} {c : Code} {args : Array Value} {w : World} {R : Ending → World → Prop} (n : Nat)
    (hf : P.funcs[f]? = some fn) (hb : fn.body = some c)
    (h : c.wp P (bodyPostM Fence.wide n P fn R) { tmps := args ++ Array.replicate (fn.ntmps - args.size) undef, defers := [] } w) : Calls P f args w R :=
  (callsIn_wide (n := n)).1 (callsIn_of_wp_marks hf hb trivial (wpIn_wide.2 h) rfl)
def old (l : List Ml) : Int := l.foldl (fun a x => max a x.2) (-1)
theorem old_succ (l : List Ml) (k : Nat) {x : Ml} (h : l[k]? = some x) : old (l.take (k + 1)) = max (old (l.take k)) x.2 := by
  obtain ⟨hk, hx⟩ := List.getElem?_eq_some_iff.1 h
  rw [List.take_succ_eq_append_getElem hk, hx]
  simp [old]
theorem touch_frB {S : Nat → Prop} {w A C : World} (h : Touch S w A) (hb : Below w.heap.size A C) : Touch S w C :=
  ⟨hb.os.trans h.os, hb.tape.trans h.tape, hb.output.trans h.output, Nat.le_trans h.size hb.size, fun k hk hn => (hb.block k hk).trans (h.block k hk hn)⟩
/-- The iterator, as a range asks of it. -/
theorem all_hseq {w : World} {Bn Bt Bb n d b B0 : Nat} {cm : Int} {s : NS} {m : MN} (hd : d < 2) (hb : b < 2) (hP : PN w B0 n s m) (hm : MOk m cm)
    (c0 : w.cell? ⟨Bn, 0, none⟩ = some (.pointer (some ⟨n, 0, none⟩))) (c1 : w.cell? ⟨Bt, 0, none⟩ = some (.int .i64 (d : Int))) (c2 : w.cell? ⟨Bb, 0, none⟩ = some (.int .i64 (b : Int)))
    (hBn : Bn < w.heap.size) (hBt : Bt < w.heap.size) (hBb : Bb < w.heap.size) :
    ∀ (W1 : World) (J Jx : Nat → World → Prop), Below w.heap.size w W1 → W1.heap.size = w.heap.size + 2 → FrB (w.heap.size + 2) J → FrB (w.heap.size + 2) Jx →
      (∀ k x W, k < (m.L (2 * d + b)).length → J k W → Says (m.L (2 * d + b)) k x W → YieldAt Fence.wide (9 - 1 - 1) Try.prog (w.heap.size + 1) (encM x) W fun e W' =>
        (e = .returned (.bool true) ∧ J (k + 1) W' ∧ KeepZ (Own s n) W W') ∨ (e = .returned (.bool false) ∧ Jx (k + 1) W' ∧ KeepZ (Own s n) W W')) → J 0 W1 →
      CallsIn Fence.wide (9 - 1) Try.prog 77 (#[.func (.yield (w.heap.size + 1)) #[] #[]] ++ #[.pointer (some ⟨Bn, 0, none⟩), .pointer (some ⟨Bt, 0, none⟩), .pointer (some ⟨Bb, 0, none⟩)]) W1 fun e W' => (∃ v, e = .returned v) ∧ (J (m.L (2 * d + b)).length W' ∨ (∃ k, k ≤ (m.L (2 * d + b)).length ∧ Jx k W')) := by
  intro W1 J Jx hB hz hJ _ hY hJ0
  have hP1 := hP.below hB
  refine all1_in _ Bn Bt Bb n d b B0 cm (Own s n) s m J Jx W1 (fun k x W hk hj hs => ?_) hd hb hP1 hm (by rw [hz]; exact hJ) ((hB.cell (p := ⟨Bn, 0, none⟩) hBn).trans c0) ((hB.cell (p := ⟨Bt, 0, none⟩) hBt).trans c1) ((hB.cell (p := ⟨Bb, 0, none⟩) hBb).trans c2) (fun g hg => hg) hP1.own_lt hJ0
  exact (hY k x W hk hj hs)
theorem touch_from {v m : Nat} {A C : World} (h : Touch (fun g => g = v) A C) (hv : v < m) : KeepsFrom m A C :=
  ⟨h.size, fun k o hk ho _ => (h.block k (Array.getElem?_eq_some_iff.1 ho).1 (by omega)).trans ho⟩
theorem touch_keepZ {v : Nat} {O : Nat → Prop} {A C : World} (h : Touch (fun g => g = v) A C) (hO : ∀ g, O g → g < A.heap.size) (hv : ¬ O v) : KeepZ O A C :=
  ⟨fun k hk => h.block k (hO k hk) (fun e => hv (e ▸ hk)), h.size⟩
theorem blk_put {W : World} {l g : Nat} {r : Loop} {o : Obj} {t : TypeId} {cs : Array Value} (h : Blk W g t cs) (hl : W.heap[l]? = some (.loop r)) : Blk (W.putObj l o) g t cs := by
  have hne : g ≠ l := fun e => by
    unfold Blk at h
    rw [e, hl] at h
    cases h
  exact (World.putObj_heap_other hne).trans h
theorem row_put {W : World} {s : Nat} {r : Loop} {o : Obj} {a : Option Addr} {n : Nat} {k : IntKind} {bs : List Int} (h : Row k W a n bs) (hl : W.heap[s]? = some (.loop r)) : Row k (W.putObj s o) a n bs :=
  ⟨h.1, fun hp => by
    obtain ⟨b, off, e, hb, hc⟩ := h.2 hp
    exact ⟨b, off, e, by simpa using hb, fun j hj => cell_put (hc j hj) hl⟩⟩
/-- A range over All: each mail lies in a block of its own. -/
theorem range_mail {g : Operand} {ps : Array Tmp} {assign body : Code} {Q : Exit → Act → World → Prop} {a : Act} {w : World} {Bn Bt Bb n d b B0 : Nat} {cm : Int} {s : NS} {m : MN} (hd : d < 2) (hb : b < 2) (hP : PN w B0 n s m) (hm : MOk m cm)
    (c0 : w.cell? ⟨Bn, 0, none⟩ = some (.pointer (some ⟨n, 0, none⟩))) (c1 : w.cell? ⟨Bt, 0, none⟩ = some (.int .i64 (d : Int))) (c2 : w.cell? ⟨Bb, 0, none⟩ = some (.int .i64 (b : Int)))
    (hBn : Bn < w.heap.size) (hBt : Bt < w.heap.size) (hBb : Bb < w.heap.size) (l : List Ml) (hl : l = m.L (2 * d + b))
    (hg : a.eval g = .func (.func 77) #[] #[.pointer (some ⟨Bn, 0, none⟩), .pointer (some ⟨Bt, 0, none⟩), .pointer (some ⟨Bb, 0, none⟩)]) (hps : ps.size = 1)
    (FR : Option Addr → Nat → Nat → Int → Nat → Act) (I Ix : Nat → World → Prop) (hI : FrB w.heap.size I) (hIx : FrB w.heap.size Ix) (h0 : I 0 w)
    (hassign : ∀ (lo : Nat) (sa : Option Addr) (sl sc : Nat) (ag : Int) (W : World) (K : Act → World → Prop) (q : Nat), q = W.heap.size → K (FR sa sl sc ag q) (W.alloc (.cells #[.slice sa sl sc, .int .i64 ag] 91)) →
      assign.wpIn (Fence.wide.inRound lo) 7 Try.prog (Exit.then K (fun _ _ _ => False)) { tmps := (ps.zip (encM (.slice sa sl sc, ag))).foldl (fun t (p, v) => t.setIfInBounds p v) a.tmps, defers := [] } W)
    (hbody : ∀ (lo k : Nat) (sa : Option Addr) (sc : Nat) (y : Ml) (q : Nat) (W : World), I k W → l[k]? = some y → w.heap.size ≤ q → Blk W q 91 #[.slice sa y.1.length sc, .int .i64 y.2] → Row .u8 W sa y.1.length y.1 → w.heap.size ≤ W.heap.size → body.wpIn (Fence.wide.inRound lo) 7 Try.prog
      (RoundEnd (fun V => KeepsFrom w.heap.size W V ∧ KeepZ (Own s n) W V ∧ I (k + 1) V) (fun V => KeepsFrom w.heap.size W V ∧ KeepZ (Own s n) W V ∧ Ix (k + 1) V)) (FR sa y.1.length sc y.2 q) W)
    (hdone : ∀ (D : Nat) (W : World), w.heap.size ≤ D → I l.length W → W.heap[D]? = some (.deferred (some [])) → Q .normal { a with defers := { target := .collected D, args := #[] } :: a.defers } W)
    (hstop : ∀ (D k : Nat) (W : World), w.heap.size ≤ D → k ≤ l.length → Ix k W → W.heap[D]? = some (.deferred (some [])) → Code.ret.wpIn Fence.wide 9 Try.prog Q { a with defers := { target := .collected D, args := #[] } :: a.defers } W) :
    (Code.rangeFunc g ps assign body).wpIn Fence.wide 9 Try.prog Q a w := by
  have hown := hP.own_lt
  have hseq := all_hseq hd hb hP hm c0 c1 c2 hBn hBt hBb
  rw [← hl] at hseq
  refine range_say (F := Fence.wide) (n := 9) rfl (by omega) hg trivial (enters_of Try.func77 (by kernel_rfl) rfl)
    (As := fun k x a' V => ∃ q sa sc y, w.heap.size ≤ q ∧ l[k]? = some y ∧ Blk V q 91 #[.slice sa y.1.length sc, .int .i64 y.2] ∧ Row .u8 V sa y.1.length y.1 ∧ a' = FR sa y.1.length sc y.2 q)
    hseq keepZ_t (fun A o => ⟨fun k hk => World.putObj_heap_other (by have := hown k hk; omega), by simp⟩) (fun A C hA hb => ⟨keepB_below hb (fun k hk => by have := hown k hk; omega), hb.size⟩) (fun _ => hps.symm)
    (fun k x a' V r o h hl => by obtain ⟨b, sa, sc, y, h1, hy, h2, h3, h4⟩ := h; exact ⟨b, sa, sc, y, h1, hy, blk_put h2 hl, row_put h3 hl, h4⟩)
    I Ix hI hIx h0 (fun lo k x W K hi hok hz hK => ?_) (fun lo k x a' W hi hk has hz => ?_) hdone hstop
  · obtain ⟨xv, xa⟩ := x
    obtain ⟨a1, c1, y, h1, h2, h3, h4⟩ := hok
    dsimp only at h2 h3
    subst h2
    subst h3
    exact hassign lo a1 y.1.length c1 y.2 W K W.heap.size rfl (hK _ _ ((Below.refl _ W).alloc (Nat.le_refl _) _) ⟨W.heap.size, a1, c1, y, hz, h1, Blk.new _ _ _, h4.below ((Below.refl _ W).alloc (Nat.le_refl _) _), rfl⟩)
  · obtain ⟨q, sa, sc, y, h1, hy, h2, h3, rfl⟩ := has
    exact hbody lo k sa sc y q W hi hy h1 h2 h3 hz
set_option maxRecDepth 100000 in
set_option maxHeartbeats 4000000 in
theorem oldest_in (w : World) (n d b B0 : Nat) (cm : Int) (s : NS) (m : MN) (hd : d < 2) (hb : b < 2) (hP : PN w B0 n s m) (hm : MOk m cm) (hcm : cm ≤ 1000000) :
    Calls Try.prog 42 #[.pointer (some ⟨n, 0, none⟩), .int .i64 (d : Int), .int .i64 (b : Int)] w fun e w' => e = .returned (.int .i64 (old (m.L (2 * d + b)))) ∧ Below w.heap.size w w' := by
  obtain ⟨l, hl⟩ : ∃ l, l = m.L (2 * d + b) := ⟨_, rfl⟩
  rw [← hl]
  have HL := Lib.hid hl
  clear hl
  refine calls_of_wp_marks 9 Try.func42 rfl ?_
  simp only [Try.ntmps42, List.size_toArray, List.length_cons, List.length_nil, Nat.reduceAdd, Nat.reduceSub, Array.replicate_succ, Array.replicate_zero, List.push_toArray, List.append_toArray, List.nil_append, List.cons_append]
  have pA := Lib.hid (fun W => all_any W n (d : Int) (b : Int))
  have HP := Lib.hid hP
  have HM := Lib.hid hm
  clear hP hm
  go_wp2_with (first | (refine (pA.out _).mono ?_; rintro e w' ⟨rfl, rfl⟩) | fail)
  obtain ⟨W, hW⟩ : ∃ W : World, W = (((w.alloc (Obj.cells #[Value.int IntKind.i64 (-1)] 3)).alloc (Obj.cells #[Value.pointer (some { block := n, off := 0 })] 25)).alloc (Obj.cells #[Value.int IntKind.i64 (d : Int)] 3)).alloc (Obj.cells #[Value.int IntKind.i64 (b : Int)] 3) := ⟨_, rfl⟩
  rw [← hW]
  have hz : W.heap.size = w.heap.size + 4 := by rw [hW]; simp
  have hB : Below w.heap.size w W := by rw [hW]; exact ((((Below.refl _ w).alloc (Nat.le_refl _) _).alloc (by simp) _).alloc (by simp; omega) _).alloc (by simp; omega) _
  have b0 : Blk W w.heap.size 3 #[.int .i64 (-1)] := by rw [hW]; exact (((Blk.new _ _ _).alloc _).alloc _).alloc _
  have b1 : Blk W (w.heap.size + 1) 25 #[.pointer (some ⟨n, 0, none⟩)] := by
    have := ((Blk.new (w.alloc (Obj.cells #[Value.int IntKind.i64 (-1)] 3)) 25 #[.pointer (some ⟨n, 0, none⟩)]).alloc (.cells #[.int .i64 (d : Int)] 3)).alloc (.cells #[.int .i64 (b : Int)] 3)
    rw [hW]; simpa only [World.size_alloc] using this
  have b2 : Blk W (w.heap.size + 1 + 1) 3 #[.int .i64 (d : Int)] := by
    have := (Blk.new ((w.alloc (Obj.cells #[Value.int IntKind.i64 (-1)] 3)).alloc (.cells #[.pointer (some ⟨n, 0, none⟩)] 25)) 3 #[.int .i64 (d : Int)]).alloc (.cells #[.int .i64 (b : Int)] 3)
    rw [hW]; simpa only [World.size_alloc] using this
  have b3 : Blk W (w.heap.size + 1 + 2) 3 #[.int .i64 (b : Int)] := by
    have := Blk.new (((w.alloc (Obj.cells #[Value.int IntKind.i64 (-1)] 3)).alloc (.cells #[.pointer (some ⟨n, 0, none⟩)] 25)).alloc (.cells #[.int .i64 (d : Int)] 3)) 3 #[.int .i64 (b : Int)]
    rw [hW]; simpa only [World.size_alloc] using this
  have hPW := HP.out.below hB
  have hnv : ¬ Own s n w.heap.size := fun h => by have := HP.out.own_lt _ h; omega
  have hown := hPW.own_lt
  have hl := HL.out
  have hage : ∀ x ∈ l, -1 ≤ x.2 ∧ x.2 ≤ 9223372036854775807 := fun x hx => by
    rw [hl] at hx
    have := HM.out.sz (2 * d + b) (by omega) x hx
    omega
  clear hW pA
  refine (wpIn_wide (n := 9)).1 ?_
  refine' range_mail hd hb hPW HM.out (b1.cell 0) (b2.cell 0) (b3.cell 0) (by omega) (by omega) (by omega) l hl rfl rfl _
    (fun k V => Blk V w.heap.size 3 #[.int .i64 (old (l.take k))] ∧ Touch (fun g => g = w.heap.size) W V) (fun _ _ => False)
    (fun k A C h hb => ⟨h.1.below hb (by omega), touch_frB h.2 hb⟩) (fun _ _ _ h _ => h) ⟨b0, Touch.refl _ _⟩ ?assign ?body ?done ?stop
  case assign =>
    intro lo sa sl sc ag U K q hq hfin
    have HQ := Lib.hid hq
    clear hq
    dsimp only [encM]
    gi_wp2
    rw [← HQ.out]
    exact hfin
  case stop =>
    rintro D k U hD hk hf _
    exact hf.elim
  case body =>
    rintro lo k sa sc ⟨bs, ag⟩ bq U ⟨hv, hT⟩ hy hbz hbx _ hz2
    have hmx := hage _ (List.mem_of_getElem? hy)
    have hos := old_succ l k hy
    dsimp only at hmx hos
    have v0 := hv.cell 0
    have f0 := hv.frozen 0
    have e1 := hbx.cell 1
    obtain ⟨ov, hov⟩ : ∃ ov, ov = old (l.take k) := ⟨_, rfl⟩
    rw [← hov] at v0 hos
    have HOS := Lib.hid hos
    have e1' : U.cell? ⟨bq, 1, none⟩ = some (.int .i64 ag) := e1
    have v0' : U.cell? ⟨w.heap.size, 0, none⟩ = some (.int .i64 ov) := v0
    have FIN := Lib.hid (fun (u : Int) (hu : u = max ov ag) => (show KeepsFrom W.heap.size U (U.setCell ⟨w.heap.size, 0, none⟩ (.int .i64 u)) ∧ KeepZ (Own s n) U (U.setCell ⟨w.heap.size, 0, none⟩ (.int .i64 u)) ∧ Blk (U.setCell ⟨w.heap.size, 0, none⟩ (.int .i64 u)) w.heap.size 3 #[.int .i64 (old (l.take (k + 1)))] ∧ Touch (fun g => g = w.heap.size) W (U.setCell ⟨w.heap.size, 0, none⟩ (.int .i64 u)) by
      have hts : Touch (fun g => g = w.heap.size) U (U.setCell ⟨w.heap.size, 0, none⟩ (.int .i64 u)) := (Touch.refl (fun g => g = w.heap.size) U).setCell (p := ⟨w.heap.size, 0, none⟩) (.inl rfl) _
      refine ⟨touch_from hts (by omega), touch_keepZ hts (fun g hg => by have := hown g hg; omega) hnv, ?_, hT.setCell (p := ⟨w.heap.size, 0, none⟩) (.inl rfl) _⟩
      have := hv.set_ 0 (.int .i64 u)
      rw [HOS.out, ← hu]
      exact this))
    clear hv hT hbx hos v0 e1 hy hov hz hl
    by_cases c : ov < ag
    · have m1 : (if ov < ag then ag else ov) = ag := if_pos c
      have m2 : max ov ag = ag := by omega
      gi_wp2
      exact FIN.out _ m2.symm
    · have m2 : max ov ag = ov := by omega
      gi_wp2
      exact FIN.out _ m2.symm
  case done =>
    rintro D U hD ⟨hv, hT⟩ hK
    have v0 := hv.cell 0
    have v0' : U.cell? ⟨w.heap.size, 0, none⟩ = some (.int .i64 (old (l.take l.length))) := v0
    clear v0
    rw [List.take_of_length_le (Nat.le_refl _)] at v0'
    have hbl : Below w.heap.size w U := hB.trans (hT.below (by omega) (fun k hk => by omega))
    have HD := Lib.hid hD
    have hK' := Lib.hid hK
    have HWw := Lib.hid (show w.heap.size ≤ W.heap.size by omega)
    clear hT hv hK hl hz
    go_wp2_with fail
    refine ⟨by simp, .inl ⟨_, _, rfl, run_takeDeferred hK'.out, ?_⟩⟩
    refine ⟨.int .i64 (old l), ?_, rfl, hbl.trans ((belowK_b (w := W) (Nat.le_refl _) _ D _ _ HD.out hK'.out rfl rfl).mono HWw.out)⟩
    simp [results, Try.f42, go_sem]
/-- A range over All of a way that there is not: nothing comes. -/
theorem range_none {g : Operand} {ps : Array Tmp} {assign body : Code} {Q : Exit → Act → World → Prop} {a : Act} {w : World} {Bn Bt Bb n : Nat} {d b : Int} (h : d < 0 ∨ (¬ d < 0 ∧ 2 ≤ d) ∨ (¬ d < 0 ∧ ¬ 2 ≤ d ∧ b < 0) ∨ (¬ d < 0 ∧ ¬ 2 ≤ d ∧ ¬ b < 0 ∧ 2 ≤ b))
    (c0 : w.cell? ⟨Bn, 0, none⟩ = some (.pointer (some ⟨n, 0, none⟩))) (c1 : w.cell? ⟨Bt, 0, none⟩ = some (.int .i64 d)) (c2 : w.cell? ⟨Bb, 0, none⟩ = some (.int .i64 b))
    (hBn : Bn < w.heap.size) (hBt : Bt < w.heap.size) (hBb : Bb < w.heap.size)
    (hg : a.eval g = .func (.func 77) #[] #[.pointer (some ⟨Bn, 0, none⟩), .pointer (some ⟨Bt, 0, none⟩), .pointer (some ⟨Bb, 0, none⟩)]) (hps : ps.size = 1)
    (hdone : ∀ (D : Nat) (W : World), w.heap.size ≤ D → Below w.heap.size w W → W.heap[D]? = some (.deferred (some [])) → Q .normal { a with defers := { target := .collected D, args := #[] } :: a.defers } W) :
    (Code.rangeFunc g ps assign body).wpIn Fence.wide 9 Try.prog Q a w := by
  refine range_say (α := E) (F := Fence.wide) (n := 9) (encs := encM) (N := 0) (Ok := fun _ _ _ => False) (As := fun _ _ _ _ => False) (Kp := fun A B => A.heap.size ≤ B.heap.size) rfl (by omega) hg trivial (enters_of Try.func77 (by kernel_rfl) rfl)
    (fun W1 J Jx hB hz hJ hJx hY hJ0 => ?_) (fun h h' => Nat.le_trans h h') (fun W o => by simp) (fun A B _ hb => hb.size) (fun _ => hps.symm) (fun _ _ _ _ _ _ h _ => h) (fun _ W => Below w.heap.size w W) (fun _ _ => False)
    (fun _ A C h hb => h.trans hb) (fun _ _ _ h _ => h) (Below.refl _ _) (fun _ _ _ _ _ _ hok _ _ => hok.elim) (fun _ _ _ _ _ _ _ has _ => has.elim) hdone (fun _ _ _ _ _ hf _ => hf.elim)
  exact all1_out _ Bn Bt Bb n d b J Jx W1 h ((hB.cell (p := ⟨Bn, 0, none⟩) hBn).trans c0) ((hB.cell (p := ⟨Bt, 0, none⟩) hBt).trans c1) ((hB.cell (p := ⟨Bb, 0, none⟩) hBb).trans c2) hJ0
set_option maxRecDepth 100000 in
set_option maxHeartbeats 4000000 in
theorem oldest_out (w : World) (n : Nat) (d b : Int) (h : d < 0 ∨ (¬ d < 0 ∧ 2 ≤ d) ∨ (¬ d < 0 ∧ ¬ 2 ≤ d ∧ b < 0) ∨ (¬ d < 0 ∧ ¬ 2 ≤ d ∧ ¬ b < 0 ∧ 2 ≤ b)) :
    Calls Try.prog 42 #[.pointer (some ⟨n, 0, none⟩), .int .i64 d, .int .i64 b] w fun e w' => e = .returned (.int .i64 (-1)) ∧ Below w.heap.size w w' := by
  have H := Lib.hid h
  clear h
  refine calls_of_wp_marks 9 Try.func42 rfl ?_
  simp only [Try.ntmps42, List.size_toArray, List.length_cons, List.length_nil, Nat.reduceAdd, Nat.reduceSub, Array.replicate_succ, Array.replicate_zero, List.push_toArray, List.append_toArray, List.nil_append, List.cons_append]
  have pA := Lib.hid (fun W => all_any W n d b)
  go_wp2_with (first | (refine (pA.out _).mono ?_; rintro e w' ⟨rfl, rfl⟩) | fail)
  obtain ⟨W, hW⟩ : ∃ W : World, W = (((w.alloc (Obj.cells #[Value.int IntKind.i64 (-1)] 3)).alloc (Obj.cells #[Value.pointer (some { block := n, off := 0 })] 25)).alloc (Obj.cells #[Value.int IntKind.i64 d] 3)).alloc (Obj.cells #[Value.int IntKind.i64 b] 3) := ⟨_, rfl⟩
  rw [← hW]
  have hz : W.heap.size = w.heap.size + 4 := by rw [hW]; simp
  have hB : Below w.heap.size w W := by rw [hW]; exact ((((Below.refl _ w).alloc (Nat.le_refl _) _).alloc (by simp) _).alloc (by simp; omega) _).alloc (by simp; omega) _
  have b0 : Blk W w.heap.size 3 #[.int .i64 (-1)] := by rw [hW]; exact (((Blk.new _ _ _).alloc _).alloc _).alloc _
  have b1 : Blk W (w.heap.size + 1) 25 #[.pointer (some ⟨n, 0, none⟩)] := by
    have := ((Blk.new (w.alloc (Obj.cells #[Value.int IntKind.i64 (-1)] 3)) 25 #[.pointer (some ⟨n, 0, none⟩)]).alloc (.cells #[.int .i64 d] 3)).alloc (.cells #[.int .i64 b] 3)
    rw [hW]; simpa only [World.size_alloc] using this
  have b2 : Blk W (w.heap.size + 1 + 1) 3 #[.int .i64 d] := by
    have := (Blk.new ((w.alloc (Obj.cells #[Value.int IntKind.i64 (-1)] 3)).alloc (.cells #[.pointer (some ⟨n, 0, none⟩)] 25)) 3 #[.int .i64 d]).alloc (.cells #[.int .i64 b] 3)
    rw [hW]; simpa only [World.size_alloc] using this
  have b3 : Blk W (w.heap.size + 1 + 2) 3 #[.int .i64 b] := by
    have := Blk.new (((w.alloc (Obj.cells #[Value.int IntKind.i64 (-1)] 3)).alloc (.cells #[.pointer (some ⟨n, 0, none⟩)] 25)).alloc (.cells #[.int .i64 d] 3)) 3 #[.int .i64 b]
    rw [hW]; simpa only [World.size_alloc] using this
  clear hW pA
  refine (wpIn_wide (n := 9)).1 ?_
  refine range_none (by have := H.out; omega) (b1.cell 0) (b2.cell 0) (b3.cell 0) (by omega) (by omega) (by omega) rfl rfl ?_
  rintro D U hD hBU hK
  have v0 := (b0.below hBU (by omega)).cell 0
  have v0' : U.cell? ⟨w.heap.size, 0, none⟩ = some (.int .i64 (-1)) := v0
  have hbl : Below w.heap.size w U := hB.trans (hBU.mono (by omega))
  have HD := Lib.hid hD
  have hK' := Lib.hid hK
  have HWw := Lib.hid (show w.heap.size ≤ W.heap.size by omega)
  clear v0 hK hz hD hBU
  go_wp2_with fail
  refine ⟨by simp, .inl ⟨_, _, rfl, run_takeDeferred hK'.out, ?_⟩⟩
  refine ⟨.int .i64 (-1), ?_, rfl, hbl.trans ((belowK_b (w := W) (Nat.le_refl _) _ D _ _ HD.out hK'.out rfl rfl).mono HWw.out)⟩
  simp [results, Try.f42, go_sem]
end Go.Proofs.Ytmceaffoffemlaa.Netw
