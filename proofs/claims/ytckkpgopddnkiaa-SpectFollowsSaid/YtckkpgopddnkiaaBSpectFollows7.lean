/-
  Texts joined: SpW5, SpWL, SfA, SfB, SfC, OpenRo, SfD. No condition.
-/
import Derived.Test.YtckkpgopddnkiaaBSpectFollows6
import Derived.Lib.QuietBelow
import Derived.Deep.QuietTactic
import Derived.BigQuiet
import Derived.Deep.Cut
import Derived.Deep.CutBlock
import Derived.MapViews
namespace Go.Proofs.Ytckkpgopddnkiaa.Spe
open Go.RowKit Go.Shelf Go.Sort Go.Proofs.Ytckkpgopddnkiaa.Byt Go.Proofs.Ytckkpgopddnkiaa.Gm Go.Proofs.Ytckkpgopddnkiaa.RingE Go.Proofs.Ytckkpgopddnkiaa.Num
set_option linter.all false

theorem src_blk {w : World} {g : Nat} {t : TypeId} {cs : List Value} (h : Blk w g t cs.toArray) (n : Nat) : Src w (some ⟨g, 0, none⟩) n cs := by
  refine .inr ⟨_, rfl, fun j u hu => ?_⟩
  have hadd : (⟨g, 0, none⟩ : Addr).add j = ⟨g, j, none⟩ := by unfold Addr.add; split <;> simp_all
  rw [hadd, h.cell j]
  simpa using hu

/-- A copy into an empty slice. -/
theorem app1 (V : World) (z : Nat) (hz : On V 34 2 (.slice (some ⟨z, 0, none⟩) 0 0) 0 []) (a : Option Addr) (l c : Nat) (ls : List (Nat × Nat)) (hll : ls.length = l) (hsrc : Src V a l (lsC ls)) (hl : l ≤ 16384) :
    ∃ a1 c1 w1, (appW #[29, 29] 29 #[.slice (some ⟨z, 0, none⟩) 0 0, .slice a l c]).run Try.prog V = .ok (.slice a1 l c1) w1 ∧ On w1 34 2 (.slice a1 l c1) l (lsC ls) ∧ V.grownBy w1 (some z) ∧ (∀ g, Value.ownBlock (.slice a1 l c1) = some g → g = z ∨ g = V.heap.size) := by
  obtain ⟨i0, hi, hz0, hz1, hz2⟩ := info_parts infoI2
  obtain ⟨v1, w1, hrun, hon, hg1, hv1⟩ := run_append_on (P := Try.prog) V 29 29 34 i0 _ 2 4 Try.underlying29 hi hz0 hz1 hz2 rfl (by omega)
    (.slice (some ⟨z, 0, none⟩) 0 0) 0 [] hz a l c (lsC ls) (by rw [lsC_len, hll]) hsrc (lsC_one ls) (by simp only [maxLen]; omega) (by omega)
  rw [Nat.zero_add, List.nil_append] at hon
  obtain ⟨a1, c1, rfl, _, _⟩ := hon.slice
  refine ⟨a1, c1, w1, hrun, hon, hg1, fun g hg => ?_⟩
  rcases hv1 with e | e
  · rw [e] at hg; simp [Value.ownBlock] at hg; exact .inl hg.symm
  · rw [e] at hg; cases hg; exact .inr rfl
/-- One more. -/
theorem app2 (V : World) (a1 : Option Addr) (l c1 : Nat) (ls : List (Nat × Nat)) (hll : ls.length = l) (hon : On V 34 2 (.slice a1 l c1) l (lsC ls)) (p x y : Nat) (hp : Blk V p 34 #[.int .u16 (x : Int), .int .u16 (y : Int)]) (hl : l ≤ 16384) :
    ∃ a2 c2 w2, (appW #[29, 29] 29 #[.slice a1 l c1, .slice (some ⟨p, 0, none⟩) 1 1]).run Try.prog V = .ok (.slice a2 (l + 1) c2) w2 ∧ On w2 34 2 (.slice a2 (l + 1) c2) (l + 1) (lsC (ls ++ [(x, y)])) ∧ V.grownBy w2 (Value.ownBlock (.slice a1 l c1)) ∧ (∀ g, Value.ownBlock (.slice a2 (l + 1) c2) = some g → Value.ownBlock (.slice a1 l c1) = some g ∨ g = V.heap.size) := by
  obtain ⟨i0, hi, hz0, hz1, hz2⟩ := info_parts infoI2
  obtain ⟨v1, w1, hrun, hon, hg1, hv1⟩ := run_append_on (P := Try.prog) V 29 29 34 i0 _ 2 4 Try.underlying29 hi hz0 hz1 hz2 rfl (by omega)
    (.slice a1 l c1) l (lsC ls) hon (some ⟨p, 0, none⟩) 1 1 (inC (x, y)).toList (by rfl) (src_blk hp 1) (by intro u hu; simp [inC] at hu; rcases hu with rfl | rfl <;> rfl) (by simp only [maxLen]; omega) (by omega)
  rw [← lsC_snoc] at hon
  obtain ⟨a2, c2, rfl, _, _⟩ := hon.slice
  refine ⟨a2, c2, w1, hrun, hon, hg1, fun g hg => ?_⟩
  rcases hv1 with e | e
  · exact .inl (e ▸ hg)
  · rw [e] at hg; cases hg; exact .inr rfl
theorem below_grown {B : Nat} {w V w1 : World} {row : Option Nat} (h : Below B w V) (hg : V.grownBy w1 row) (hr : ∀ g, row = some g → B ≤ g) (hB : B ≤ V.heap.size) : Below B w w1 := h.grown hg hB (fun k e => hr k e)

/-- What both appends leave. -/
def Twice (W : World) (ls : List (Nat × Nat)) (v : Value) (w2 : World) : Prop := On w2 34 2 v ls.length (lsC ls) ∧ Below W.heap.size W w2 ∧ ∀ g, v.ownBlock = some g → W.heap.size ≤ g
section
variable (W : World) (a : Option Addr) (l c x y : Nat) (ls : List (Nat × Nat)) (hll : ls.length = l) (hon : On W 34 2 (.slice a l c) l (lsC ls)) (hl : l ≤ 16384)
include hll hon hl
/-- The pair is laid behind the copy. -/
theorem twice1 : ∃ a1 c1 w1 a2 c2 w2, (appW #[29, 29] 29 #[.slice (some ⟨W.heap.size, 0, none⟩) 0 0, .slice a l c]).run Try.prog (W.alloc (.cells #[] 34)).drew = .ok (.slice a1 l c1) w1 ∧
    (appW #[29, 29] 29 #[.slice a1 l c1, .slice (some ⟨w1.heap.size, 0, none⟩) 1 1]).run Try.prog (w1.alloc (.cells #[.int .u16 (x : Int), .int .u16 (y : Int)] 34)) = .ok (.slice a2 (l + 1) c2) w2 ∧ Below W.heap.size W w1 ∧ Twice W (ls ++ [(x, y)]) (.slice a2 (l + 1) c2) w2 := by
  have hb : Below W.heap.size W (W.alloc (.cells #[] 34)).drew := ((Below.refl _ W).alloc (Nat.le_refl _) _).drew
  obtain ⟨a1, c1, w1, h1, o1, g1, n1⟩ := app1 (W.alloc (.cells #[] 34)).drew W.heap.size ((On.empty W _ _).drew) a l c ls hll ((hon.alloc _).drew.src) hl
  have b1 := below_grown hb g1 (fun g e => by cases e; exact Nat.le_refl _) hb.size
  obtain ⟨a2, c2, w2, h2, o2, g2, n2⟩ := app2 (w1.alloc (.cells #[.int .u16 (x : Int), .int .u16 (y : Int)] 34)) a1 l c1 ls hll (o1.alloc _) w1.heap.size x y (Blk.new _ _ _) hl
  have own1 : ∀ g, Value.ownBlock (.slice a1 l c1) = some g → W.heap.size ≤ g := fun g hg => by
    rcases n1 g hg with e | e
    · omega
    · have := hb.size; omega
  have b2 := below_grown (b1.alloc b1.size (.cells #[.int .u16 (x : Int), .int .u16 (y : Int)] 34)) g2 own1 (b1.alloc b1.size _).size
  refine ⟨a1, c1, w1, a2, c2, w2, h1, h2, b1, ?_, b2, fun g hg => ?_⟩
  · rw [List.length_append, List.length_singleton, hll]; exact o2
  · rcases n2 g hg with e | e
    · exact own1 g e
    · rw [e]; exact (b1.alloc b1.size _).size
/-- The pair is laid ahead of the copy: the empty slice's block at z, the pair's at p. -/
theorem twice2 (V : World) (z p : Nat) (hb : Below W.heap.size W V) (hz : On V 34 2 (.slice (some ⟨z, 0, none⟩) 0 0) 0 []) (hp : Blk V p 34 #[.int .u16 (x : Int), .int .u16 (y : Int)]) (hzp : z ≠ p) (hzW : W.heap.size ≤ z) (hsrc : Src V a l (lsC ls)) :
    ∃ a1 c1 w1 a2 c2 w2, (appW #[29, 29] 29 #[.slice (some ⟨z, 0, none⟩) 0 0, .slice a l c]).run Try.prog V = .ok (.slice a1 l c1) w1 ∧
    (appW #[29, 29] 29 #[.slice a1 l c1, .slice (some ⟨p, 0, none⟩) 1 1]).run Try.prog w1 = .ok (.slice a2 (l + 1) c2) w2 ∧ Below W.heap.size W w1 ∧ Twice W (ls ++ [(x, y)]) (.slice a2 (l + 1) c2) w2 := by
  obtain ⟨a1, c1, w1, h1, o1, g1, n1⟩ := app1 V z hz a l c ls hll hsrc hl
  have b1 := below_grown hb g1 (fun g e => by cases e; exact hzW) hb.size
  have hp1 : Blk w1 p 34 #[.int .u16 (x : Int), .int .u16 (y : Int)] := hp.grown g1 (fun e => hzp (Option.some.inj e).symm)
  obtain ⟨a2, c2, w2, h2, o2, g2, n2⟩ := app2 w1 a1 l c1 ls hll o1 p x y hp1 hl
  have own1 : ∀ g, Value.ownBlock (.slice a1 l c1) = some g → W.heap.size ≤ g := fun g hg => by
    rcases n1 g hg with e | e
    · omega
    · have := hb.size; omega
  have b2 := below_grown b1 g2 own1 b1.size
  refine ⟨a1, c1, w1, a2, c2, w2, h1, h2, b1, ?_, b2, fun g hg => ?_⟩
  · rw [List.length_append, List.length_singleton, hll]; exact o2
  · rcases n2 g hg with e | e
    · exact own1 g e
    · rw [e]; exact b1.size
end
end Go.Proofs.Ytckkpgopddnkiaa.Spe
namespace Go.Proofs.Ytckkpgopddnkiaa.Spe
open Go.RowKit Go.Shelf Go.Sort Go.Proofs.Ytckkpgopddnkiaa.Byt Go.Proofs.Ytckkpgopddnkiaa.Gm Go.Proofs.Ytckkpgopddnkiaa.RingE Go.Proofs.Ytckkpgopddnkiaa.Num
set_option linter.all false

/-- A script in memory: kind, two inputs, how often. -/
def WOps (w : World) (a : Option Addr) (ops : List (Int × Nat × Nat × Int)) : Prop :=
  (∀ o ∈ ops, o.2.1 < 65536 ∧ o.2.2.1 < 65536 ∧ (-9223372036854775808 ≤ o.1 ∧ o.1 ≤ 9223372036854775807) ∧ (-9223372036854775808 ≤ o.2.2.2 ∧ o.2.2.2 ≤ 9223372036854775807)) ∧
  (0 < ops.length → ∃ b off, a = some ⟨b, off, none⟩ ∧ b < w.heap.size ∧ ∀ j o, ops[j]? = some o →
    w.cell? ⟨b, off + j * 4, none⟩ = some (.int .i64 o.1) ∧ w.cell? ⟨b, off + j * 4 + 1, none⟩ = some (.int .u16 (o.2.1 : Int)) ∧ w.cell? ⟨b, off + j * 4 + 1 + 1, none⟩ = some (.int .u16 (o.2.2.1 : Int)) ∧ w.cell? ⟨b, off + j * 4 + 3, none⟩ = some (.int .i64 o.2.2.2))
theorem WOps.below {w w' : World} {a : Option Addr} {ops : List (Int × Nat × Nat × Int)} (h : WOps w a ops) (hb : Below w.heap.size w w') : WOps w' a ops :=
  ⟨h.1, fun hp => by
    obtain ⟨b, off, e, hlt, hc⟩ := h.2 hp
    refine ⟨b, off, e, Nat.lt_of_lt_of_le hlt hb.size, fun j o ho => ?_⟩
    obtain ⟨h0, h1, h2, h3⟩ := hc j o ho
    exact ⟨(hb.cell (p := ⟨b, _, none⟩) hlt).trans h0, (hb.cell (p := ⟨b, _, none⟩) hlt).trans h1, (hb.cell (p := ⟨b, _, none⟩) hlt).trans h2, (hb.cell (p := ⟨b, _, none⟩) hlt).trans h3⟩⟩

/-- The watch beside the document's. -/
structure LX (w W : World) (g d sd : Nat) (lv rv : Value) (lag q s : Nat) (C : Array Value) (ls ms : List (Nat × Nat)) : Prop where
  wt : Wt W g sd lv lag C (pf sd ls s) q ls
  doc : Blk W d 31 #[rv, .int .i64 (lag : Int), .int .i64 (s : Int), .int .i64 (q : Int)]
  rl : On W 34 2 rv ms.length (lsC ms)
  lo : Below w.heap.size w W
  g0 : w.heap.size ≤ g
  d0 : w.heap.size ≤ d
  l0 : ∀ k, lv.ownBlock = some k → w.heap.size ≤ k
  ap : ∀ k, lv.ownBlock = some k → ¬ rv.ownBlock = some k
  hs : s ≤ ls.length
  ib : InB ls
section
variable {w W W' : World} {g d sd lag q s : Nat} {lv rv : Value} {C : Array Value} {ls ms : List (Nat × Nat)}
theorem LX.below (h : LX w W g d sd lv rv lag q s C ls ms) (hb : Below W.heap.size W W') : LX w W' g d sd lv rv lag q s C ls ms :=
  ⟨h.wt.below hb, h.doc.below hb h.doc.lt, h.rl.below hb h.rl.lt, h.lo.trans (hb.mono h.lo.size), h.g0, h.d0, h.l0, h.ap, h.hs, h.ib⟩
theorem LX.drewN (h : LX w W g d sd lv rv lag q s C ls ms) (n : Nat) : LX w (W.drewN n) g d sd lv rv lag q s C ls ms := h.below (below_drewN (Below.refl _ W) n)
theorem LX.gd (h : LX w W g d sd lv rv lag q s C ls ms) : ¬ g = d := Blk.ne_ h.wt.blk h.doc (by decide)
theorem LX.rg (h : LX w W g d sd lv rv lag q s C ls ms) : ¬ rv.ownBlock = some g := On.blk_ne h.rl h.wt.blk (by decide)
theorem LX.rd (h : LX w W g d sd lv rv lag q s C ls ms) : ¬ rv.ownBlock = some d := On.blk_ne h.rl h.doc (by decide)
theorem LX.ld (h : LX w W g d sd lv rv lag q s C ls ms) : ¬ lv.ownBlock = some d := On.blk_ne h.wt.lst h.doc (by decide)
/-- The watch was put one more. -/
theorem LX.put (h : LX w W g d sd lv rv lag q s C ls ls) {lv' : Value} {p : Nat × Nat} (hp : p.1 < 65536 ∧ p.2 < 65536) (hw : Wt W' g sd lv' lag C (pf sd ls s) q (ls ++ [p])) (hT : Touch (fun k => k = g ∨ lv.ownBlock = some k) W W') (ho : ∀ k, lv'.ownBlock = some k → lv.ownBlock = some k ∨ W.heap.size ≤ k) : LX w W' g d sd lv' rv lag q s C (ls ++ [p]) ls := by
  refine ⟨?_, h.doc.touch hT (fun e => e.elim (fun e => h.gd e.symm) (fun e => h.ld e)), h.rl.touch hT (fun k hk e => e.elim (fun e => h.rg (e ▸ hk)) (fun e => h.ap k e hk)), h.lo.trans (hT.below h.lo.size (fun k hk => hk.elim (fun e => e ▸ h.g0) (h.l0 k))), h.g0, h.d0, fun k hk => ?_, fun k hk e => ?_, by have := h.hs; simp; omega, fun x hx => ?_⟩
  · rw [pf_app sd ls [p] s h.hs]; exact hw
  · rcases ho k hk with e | e
    · exact h.l0 k e
    · exact Nat.le_trans h.lo.size e
  · rcases ho k hk with e2 | e2
    · exact h.ap k e2 e
    · have := h.rl.lt k e; omega
  · rcases List.mem_append.1 hx with hx | hx
    · exact h.ib x hx
    · simp at hx; rw [hx]; exact hp
/-- The document's list was lengthened. -/
theorem LX.twice {w2 : World} {rv' : Value} (h : LX w W g d sd lv rv lag q s C ls ms) {ns : List (Nat × Nat)} (ht : Twice W ns rv' w2) : LX w (w2.setCell ⟨d, 0, none⟩ rv') g d sd lv rv' lag q s C ls ns := by
  obtain ⟨hon, hb, hown⟩ := ht
  have h2 := h.below hb
  have hrd : ¬ rv'.ownBlock = some d := On.blk_ne hon h2.doc (by decide)
  have hwt : Wt (w2.setCell ⟨d, 0, none⟩ rv') g sd lv lag C (pf sd ls s) q ls := ⟨h2.wt.st, h2.wt.blk.far (fun e => h.gd e) _, h2.wt.lst.far (fun e => h2.ld e) _⟩
  exact ⟨hwt, Blk.set_ h2.doc 0 _, hon.far (fun e => hrd e) _, h2.lo.setCell h.d0 _, h.g0, h.d0, h.l0, fun k hk e => by
    have := h.wt.lst.lt k hk
    have := hown k e
    omega, h.hs, h.ib⟩
/-- A tick of both. -/
theorem LX.tick (h : LX w W g d sd lv rv lag q s C ls ms) {C' : Array Value} {s' q' : Nat} (hw : Wt W' g sd lv lag C' (pf sd ls s') q' ls) (hT : Touch (fun k => k = g) W W') (hs : s' ≤ ls.length) :
    LX w ((W'.setCell ⟨d, 0, none⟩ rv |>.setCell ⟨d, 1, none⟩ (.int .i64 (lag : Int))) |>.setCell ⟨d, 2, none⟩ (.int .i64 (s' : Int)) |>.setCell ⟨d, 3, none⟩ (.int .i64 (q' : Int))) g d sd lv rv lag q' s' C' ls ms := by
  have hd : Blk W' d 31 #[rv, .int .i64 (lag : Int), .int .i64 (s : Int), .int .i64 (q : Int)] := h.doc.touch hT (fun e => h.gd e.symm)
  have hr : On W' 34 2 rv ms.length (lsC ms) := h.rl.touch hT (fun k hk e => h.rg (e ▸ hk))
  have fr : ∀ (V : World) (j : Nat) (u : Value), Wt V g sd lv lag C' (pf sd ls s') q' ls → Wt (V.setCell ⟨d, j, none⟩ u) g sd lv lag C' (pf sd ls s') q' ls := fun V j u hV => ⟨hV.st, hV.blk.far (fun e => h.gd e) _, hV.lst.far (fun e => h.ld e) _⟩
  have lo : Below w.heap.size w W' := h.lo.trans (hT.below h.lo.size (fun k hk => hk ▸ h.g0))
  exact ⟨fr _ _ _ (fr _ _ _ (fr _ _ _ (fr _ _ _ hw))), Blk.set_ (Blk.set_ (Blk.set_ (Blk.set_ hd 0 _) 1 _) 2 _) 3 _,
    (((hr.far (fun e => h.rd e) _).far (fun e => h.rd e) _).far (fun e => h.rd e) _).far (fun e => h.rd e) _,
    (((lo.setCell h.d0 _).setCell h.d0 _).setCell h.d0 _).setCell h.d0 _, h.g0, h.d0, h.l0, h.ap, hs, h.ib⟩
end
end Go.Proofs.Ytckkpgopddnkiaa.Spe
namespace Go.Proofs.Ytckkpgopddnkiaa.Rl
open Go.RowKit Go.Sort Go.Proofs.Ytckkpgopddnkiaa.Gm Go.Proofs.Ytckkpgopddnkiaa.RingE Go.Proofs.Ytckkpgopddnkiaa.Inputq
set_option linter.all false

theorem sure_lb {x : H} {m : Int} (h0 : m ≤ (x.ks 0).length) (h1 : m ≤ (x.ks 1).length) (hu : m ≤ x.us.length) (hw : ∀ i, i < 2 → 0 ≤ x.wr i → m ≤ x.wr i) : m ≤ sureH x := by
  have a := minI_le (confH x) x.us.length
  have b := minI_le (x.ks 0).length (x.ks 1).length
  have c := minI_le (sureHN x 0) (x.wr 0)
  have d := minI_le (sureHN x 1) (x.wr 1)
  have e0 : sureHN x 0 = minI (confH x) x.us.length := rfl
  have e1 : sureHN x 1 = if 0 ≤ x.wr 0 then minI (sureHN x 0) (x.wr 0) else sureHN x 0 := rfl
  have e2 : sureH x = if 0 ≤ x.wr 1 then minI (sureHN x 1) (x.wr 1) else sureHN x 1 := rfl
  have ec : confH x = minI (x.ks 0).length (x.ks 1).length := rfl
  have w0 := hw 0 (by omega)
  have w1 := hw 1 (by omega)
  split at e1 <;> split at e2 <;> omega
theorem sure_ub {x : H} {i : Nat} (hi : i < 2) (h : 0 ≤ x.wr i) : sureH x ≤ x.wr i := by
  have c := minI_le (sureHN x 0) (x.wr 0)
  have d := minI_le (sureHN x 1) (x.wr 1)
  have e1 : sureHN x 1 = if 0 ≤ x.wr 0 then minI (sureHN x 0) (x.wr 0) else sureHN x 0 := rfl
  have e2 : sureH x = if 0 ≤ x.wr 1 then minI (sureHN x 1) (x.wr 1) else sureHN x 1 := rfl
  obtain rfl | rfl : i = 0 ∨ i = 1 := by omega
  · split at e1 <;> split at e2 <;> omega
  · split at e2 <;> omega
theorem sure_nn (x : H) : 0 ≤ sureH x := sure_lb (by omega) (by omega) (by omega) (fun i _ h => h)
/-- The known inputs of one history begin the other one's, and nothing that was sure is lost. -/
structure Grows (x x' : H) : Prop where
  ks : ∀ i, i < 2 → x.ks i <+: x'.ks i
  us : x.us.length ≤ x'.us.length
  wr : ∀ i, i < 2 → x'.wr i = -1 ∨ x'.wr i = x.wr i ∨ ((x.ks i).length : Int) ≤ x'.wr i
theorem Grows.len {x x' : H} (h : Grows x x') {i : Nat} (hi : i < 2) : (x.ks i).length ≤ (x'.ks i).length := (h.ks i hi).length_le
theorem Grows.sure {x x' : H} (h : Grows x x') : sureH x ≤ sureH x' := by
  have hs := sureH_le x
  have l0 := h.len (i := 0) (by omega)
  have l1 := h.len (i := 1) (by omega)
  have hu := h.us
  refine sure_lb (by omega) (by omega) (by omega) (fun i hi h0 => ?_)
  rcases h.wr i hi with e | e | e
  · omega
  · rw [e]; exact sure_ub hi (by omega)
  · obtain rfl | rfl : i = 0 ∨ i = 1 := by omega
    · omega
    · omega
theorem Grows.refl (x : H) : Grows x x := ⟨fun i _ => List.prefix_refl _, Nat.le_refl _, fun i _ => .inr (.inl rfl)⟩
theorem Grows.fix {c : Cfg} {x : H} (j : J c x) : Grows x (fixH x) := by
  obtain ⟨e1, e2, e3⟩ := fixH_same x
  refine ⟨fun i _ => by rw [e1]; exact List.prefix_refl _, by rw [fixH_len j]; exact Nat.le_refl _, fun i _ => .inl (by rw [e2])⟩
theorem Grows.addR {c : Cfg} {x : H} (v : Nat) : Grows x (addHR c x v) := by
  unfold addHR
  split
  · exact Grows.refl x
  · refine ⟨fun i _ => ?_, Nat.le_refl _, fun i _ => ?_⟩
    · show x.ks i <+: upd x.ks (1 - c.lo) (x.ks (1 - c.lo) ++ [v]) i
      by_cases e : i = 1 - c.lo
      · subst e; rw [upd_at]; exact List.prefix_append _ _
      · rw [upd_ne _ _ e]; exact List.prefix_refl _
    · rw [show (addH x (1 - c.lo) v).wr i = upd x.wr (1 - c.lo) (wrongA x (1 - c.lo) v) i from rfl]
      by_cases e : i = 1 - c.lo
      · subst e
        rw [upd_at]
        unfold wrongA
        split
        · exact .inr (.inr (Int.le_refl _))
        · exact .inr (.inl rfl)
      · rw [upd_ne _ _ e]; exact .inr (.inl rfl)
theorem Grows.adv {c : Cfg} {x : H} (j : J c x) {v : Nat} (hv : v < 65536) (hn : x.us.length < 110) : Grows x (advH c x v) := by
  by_cases hT : advT c x
  · have e2 : advH c x v = x := if_pos hT
    rw [e2]; exact Grows.refl x
  · have e2 : advH c x v = adv3 c x v := if_neg hT
    obtain ⟨a1, a2, a3, a4, a5⟩ := adv1_same j v
    have hl := (adv2_j0 j hv hn).2
    have ek : (adv3 c x v).ks = (adv1 c x v).ks := rfl
    have ew : (adv3 c x v).wr = (adv1 c x v).wr := rfl
    have eu : (adv3 c x v).us = (adv2 c x v).us := rfl
    rw [e2]
    refine ⟨fun i _ => ?_, by rw [eu, hl]; omega, fun i hi => .inl (by rw [ew]; exact a3 i hi)⟩
    rw [ek, a1]
    by_cases e : i = c.lo
    · subst e; rw [upd_at]; exact List.prefix_append _ _
    · rw [upd_ne _ _ e]; exact List.prefix_refl _
/-- The pairs that are known. -/
def kp (x : H) (i : Nat) : Nat × Nat := ((x.ks 0).getD i 0, (x.ks 1).getD i 0)
def fo (x : H) (n : Nat) : List (Nat × Nat) := (List.range n).map (kp x)
theorem fo_len (x : H) (n : Nat) : (fo x n).length = n := by simp [fo]
theorem fo_succ (x : H) (n : Nat) : fo x (n + 1) = fo x n ++ [kp x n] := by simp [fo, List.range_succ]
theorem fo_get (x : H) {n i : Nat} (h : i < n) : (fo x n)[i]? = some (kp x i) := by simp [fo, List.getElem?_map, List.getElem?_range h]
theorem pre_getD {l l' : List Nat} (h : l <+: l') {i : Nat} (hi : i < l.length) : l'.getD i 0 = l.getD i 0 := by
  obtain ⟨t, rfl⟩ := h
  rw [List.getD_eq_getElem?_getD, List.getD_eq_getElem?_getD, List.getElem?_append_left hi]
theorem Grows.fo {x x' : H} (h : Grows x x') {n : Nat} (hn : (n : Int) ≤ sureH x) : Rl.fo x' n = Rl.fo x n := by
  have hs := sureH_le x
  unfold Rl.fo
  refine List.map_congr_left (fun i hi => ?_)
  have hi := List.mem_range.1 hi
  unfold kp
  rw [pre_getD (h.ks 0 (by omega)) (by omega), pre_getD (h.ks 1 (by omega)) (by omega)]
theorem fo_inb {c : Cfg} {x : H} (j : J c x) (n : Nat) : Spe.InB (fo x n) := fun p hp => by
  obtain ⟨i, -, rfl⟩ := List.mem_map.1 hp
  have e : ∀ k, k < 2 → (x.ks k).getD i 0 < 65536 := fun k hk => by
    rw [List.getD_eq_getElem?_getD]
    cases h : (x.ks k)[i]? with
    | none => simp
    | some v => exact j.kv k hk v (List.mem_of_getElem? h)
  exact ⟨e 0 (by omega), e 1 (by omega)⟩
/-- What the watch shows is what the engine was sure of. -/
theorem fo_pl {c : Cfg} {x : H} (j : J c x) {n k : Nat} (hn : (n : Int) ≤ sureH x) (hk : k ≤ n) : Spe.pf c.sd (fo x n) k = pl c.sd x.us k :=
  pl_congr c.sd k (fun i hi => by rw [fo_get x (by omega), sure_us j (by omega)]; rfl)
theorem J.low0 {c : Cfg} {x : H} (j : J c x) (h : x.us.length < 64) : x.low = 0 := by have := j.lw; omega
theorem kn_sure {c : Cfg} {x : H} (j : J c x) (h : x.us.length < 64) {m : Nat} (hm : (m : Int) < sureH x) : knB x m = true ∧ knV x 0 m = (kp x m).1 ∧ knV x 1 m = (kp x m).2 := by
  have hs := sureH_le x
  have h0 := j.low0 h
  have hk : knB x m = true := by unfold knB; simp only [decide_eq_true_eq]; omega
  refine ⟨hk, ?_, ?_⟩
  · unfold knV; rw [if_pos hk]; rfl
  · unfold knV; rw [if_pos hk]; rfl

/-- The watch while it follows. -/
structure FoR (w wr : World) (c : Cfg) (s : SE) (x : H) (g : Nat) (lv lv' : Value) (lag q : Int) (C : Array Value) (f : F) (m : Nat) : Prop where
  ha : HAt wr c s x
  wt : Spe.Wt wr g c.sd lv' lag C f q (fo x m)
  ow : ∀ k, lv'.ownBlock = some k → lv.ownBlock = some k ∨ w.heap.size ≤ k
  T : Touch (fun k => k = g ∨ lv.ownBlock = some k) w wr
  ap : ∀ k, lv'.ownBlock = some k → ¬ fpE s k
section
variable {w wr W : World} {c : Cfg} {s : SE} {x : H} {g : Nat} {lv lv' : Value} {lag q : Int} {C : Array Value} {f : F} {m : Nat}
theorem FoR.below (h : FoR w wr c s x g lv lv' lag q C f m) (hb : Below wr.heap.size wr W) : FoR w W c s x g lv lv' lag q C f m :=
  ⟨h.ha.below hb, h.wt.below hb, h.ow, h.T.trans (Touch.of_below (S := fun _ => False) hb) (fun k hk => hk.elim), h.ap⟩
theorem FoR.known (h : FoR w wr c s x g lv lv' lag q C f m) : Calls Try.prog 18 #[.pointer (some ⟨g, 0, none⟩)] wr fun e w' => e = .returned (.int .i64 (m : Int)) ∧ wr = w' := by
  obtain ⟨a, cc, rfl, h1, h2, h3⟩ := h.wt.sl
  have := Spe.known_any wr g a _ cc h.wt.c1
  rw [fo_len] at this
  exact this
theorem FoR.sure (h : FoR w wr c s x g lv lv' lag q C f m) (j : J c x) : Calls Try.prog 30 #[.pointer (some ⟨s.g, 0, none⟩)] wr fun e w' => e = .returned (.int .i64 (sureH x)) ∧ ∃ n, w' = wr.drewN n := sure_h h.ha j.j0
theorem FoR.kn (h : FoR w wr c s x g lv lv' lag q C f m) (j : J c x) (hu : x.us.length < 64) (hm : (m : Int) < sureH x) : Calls Try.prog 72 #[.pointer (some ⟨s.g, 0, none⟩), .int .i64 (m : Int)] wr fun e w' => e = .returned (.tuple #[.agg #[.int .u16 ((kp x m).1 : Int), .int .u16 ((kp x m).2 : Int)], .bool true]) ∧ Below wr.heap.size wr w' := by
  obtain ⟨e0, e1, e2⟩ := kn_sure j hu hm
  have hs := sureH_le x
  have := known_h wr c s x m h.ha j (by omega)
  rw [e0, e1, e2] at this
  exact this
theorem FoR.put (h : FoR w wr c s x g lv lv' lag q C f m) (j : J c x) (hu : x.us.length < 64) (hm : (m : Int) < sureH x) : Calls Try.prog 15 #[.pointer (some ⟨g, 0, none⟩), .agg #[.int .u16 ((kp x m).1 : Int), .int .u16 ((kp x m).2 : Int)]] wr fun e w' => e = .returned (.int .i64 0) ∧ ∃ lv2, FoR w w' c s x g lv lv2 lag q C f (m + 1) := by
  have hs := sureH_le x
  have hb := fo_inb j (m + 1) (kp x m) (by rw [fo_succ]; simp)
  refine (Spe.wput_any wr g c.sd lv' lag q C f (fo x m) h.wt (kp x m).1 (kp x m).2 hb.1 hb.2 (by rw [fo_len]; omega)).mono fun e w' ⟨he, lv2, hW, hT, hO⟩ => ⟨he, lv2, ?_⟩
  have hg : ¬ fpE s g := h.ha.other' h.wt.blk (by decide)
  refine ⟨h.ha.touch hT (fun k hk hk2 => hk2.elim (fun e => hg (e ▸ hk)) (fun e => h.ap k e hk)), by rw [fo_succ]; exact hW, fun k hk => ?_, h.T.trans hT (fun k hk => ?_), fun k hk hk2 => ?_⟩
  · rcases hO k hk with e | e
    · exact h.ow k e
    · exact .inr (Nat.le_trans h.T.size e)
  · rcases hk with e | e
    · exact .inl (.inl e)
    · exact (h.ow k e).elim (fun a => .inl (.inr a)) .inr
  · rcases hO k hk with e | e
    · exact h.ap k e hk2
    · have := h.ha.lt k hk2; omega
end

set_option maxRecDepth 100000 in
set_option maxHeartbeats 8000000 in
theorem follow_any (w : World) (c : Cfg) (s : SE) (x : H) (g : Nat) (lv : Value) (lag q : Int) (C : Array Value) (f : F) (n : Nat) (hA : HAt w c s x) (j : J c x) (hu : x.us.length < 64) (hW : Spe.Wt w g c.sd lv lag C f q (fo x n)) (hn : (n : Int) ≤ sureH x) (hap : ∀ k, lv.ownBlock = some k → ¬ fpE s k) :
    Calls Try.prog 29 #[.pointer (some ⟨g, 0, none⟩), .pointer (some ⟨s.g, 0, none⟩)] w fun e w' => e = .returned (.int .i64 (sureH x - n)) ∧ ∃ lv', FoR w w' c s x g lv lv' lag q C f (sureH x).toNat := by
  obtain ⟨sz, hsz⟩ : ∃ sz : Nat, (sz : Int) = sureH x := ⟨(sureH x).toNat, by have := sure_nn x; omega⟩
  have hs := sureH_le x
  have pK := Lib.hid (fun wr lv' m (h : FoR w wr c s x g lv lv' lag q C f m) => h.known)
  have pS := Lib.hid (fun wr lv' m (h : FoR w wr c s x g lv lv' lag q C f m) => h.sure j)
  have pN := Lib.hid (fun wr lv' m (h : FoR w wr c s x g lv lv' lag q C f m) (hm : (m : Int) < sureH x) => h.kn j hu hm)
  have pP := Lib.hid (fun wr lv' m (h : FoR w wr c s x g lv lv' lag q C f m) (hm : (m : Int) < sureH x) => h.put j hu hm)
  have hR0 : FoR w w c s x g lv lv lag q C f n := ⟨hA, hW, fun k hk => .inl hk, Touch.refl _ _, hap⟩
  have HR0 := Lib.hid hR0
  rw [← hsz] at pS pN pP hn ⊢
  have e1 : (sz : Int).toNat = sz := by omega
  rw [e1]
  have hsu : sz ≤ 100 := by omega
  clear hsz hs hA j hu hW hap hR0 e1
  go_enter Try.func29, Try.ntmps29
  go_wp2_with fail
  go_loopw [5] (fun iv wr => ∃ (m : Nat) (lv' : Value), n ≤ m ∧ m ≤ sz ∧ iv = .int .i64 ((m : Int) - n) ∧ FoR w wr c s x g lv lv' lag q C f m) (fun iv _ => (sz - n) - (intOf iv).toNat)
  case atStart => exact ⟨n, lv, Nat.le_refl _, by omega, by simp, HR0.out⟩
  case round =>
    clear HR0
    obtain ⟨m, lv', hnm, hms, rfl, hR⟩ := hrel
    have PK := Lib.hid (pK.out wr lv' m hR)
    have PS := Lib.hid (pS.out wr lv' m hR)
    have HR := Lib.hid hR
    clear hR
    by_cases hlt : (m : Int) < (sz : Int)
    · have PN := Lib.hid (fun W lv' h => pN.out W lv' m h hlt)
      have PP := Lib.hid (fun W lv' h => pP.out W lv' m h hlt)
      obtain ⟨px, hpx⟩ : ∃ px, (kp x m).1 = px := ⟨_, rfl⟩
      obtain ⟨py, hpy⟩ : ∃ py, (kp x m).2 = py := ⟨_, rfl⟩
      rw [hpx, hpy] at PN PP
      clear hpx hpy pN pP
      go_wp2_with fail
      refine PK.out.mono ?_
      rintro e w1 ⟨rfl, hw⟩
      obtain rfl := hw
      go_wp2_with fail
      refine PS.out.mono ?_
      rintro e w2 ⟨rfl, d, rfl⟩
      have HR2 := Lib.hid (HR.out.below (below_drewN (Below.refl _ wr) d))
      have PK2 := Lib.hid (pK.out _ lv' m HR2.out)
      generalize wr.drewN d = W2 at *
      clear HR PK PS
      go_wp2_with fail
      refine PK2.out.mono ?_
      rintro e w3 ⟨rfl, hw⟩
      obtain rfl := hw
      go_wp2_with fail
      refine (PN.out _ lv' HR2.out).mono ?_
      rintro e w4 ⟨rfl, b4⟩
      have hR4 := (HR2.out.below b4).below ((Below.refl _ w4).alloc (Nat.le_refl _) (.cells #[.int .u16 (px : Int), .int .u16 (py : Int)] 34))
      have hX := Blk.new w4 34 #[.int .u16 (px : Int), .int .u16 (py : Int)]
      have x0 := hX.cell 0
      have x1 := hX.cell 1
      simp only [List.getElem?_toArray, List.getElem?_cons_zero, List.getElem?_cons_succ] at x0 x1
      have PP4 := Lib.hid (PP.out _ lv' hR4)
      clear HR2 PK2 hR4 hX PN PP b4
      go_wp2_with fail
      refine PP4.out.mono ?_
      rintro e w5 ⟨rfl, lv2, hR5⟩
      have HR5 := Lib.hid hR5
      clear hR5 PP4 x0 x1
      go_wp2_with fail
      go_roundw
      case rel => exact ⟨m + 1, lv2, by omega, by omega, by go_num, HR5.out⟩
      case measure => simp [intOf]; omega
    · obtain rfl : m = sz := by omega
      go_wp2_with fail
      refine PK.out.mono ?_
      rintro e w1 ⟨rfl, hw⟩
      obtain rfl := hw
      go_wp2_with fail
      refine PS.out.mono ?_
      rintro e w2 ⟨rfl, d, rfl⟩
      have HR2 := Lib.hid (HR.out.below (below_drewN (Below.refl _ wr) d))
      clear HR PK PS
      go_wp2_with fail
      go_ret
      exact ⟨rfl, lv', HR2.out⟩
end Go.Proofs.Ytckkpgopddnkiaa.Rl
namespace Go.Proofs.Ytckkpgopddnkiaa.Rl
open Go.RowKit Go.Sort Go.Proofs.Ytckkpgopddnkiaa.Gm Go.Proofs.Ytckkpgopddnkiaa.RingE Go.Proofs.Ytckkpgopddnkiaa.Inputq
set_option linter.all false

/-- The engine, and the watch that follows it. -/
structure SF (w wr : World) (cf : Cfg) (g b : Nat) (s : SE) (x : H) (lv : Value) (C : Array Value) (lag q sh n K Q : Nat) : Prop where
  ea : s.g = g
  ha : HAt wr cf s x
  j : J cf x
  wt : Spe.Wt wr b cf.sd lv (lag : Int) C (Spe.pf cf.sd (fo x n) sh) (q : Int) (fo x n)
  hn : (n : Int) ≤ sureH x
  hs : sh ≤ n
  ap : ∀ k, lv.ownBlock = some k → ¬ fpE s k
  lo : Below w.heap.size w wr
  ba : ∀ k, fpE s k → w.heap.size ≤ k
  b0 : w.heap.size ≤ b
  l0 : ∀ k, lv.ownBlock = some k → w.heap.size ≤ k
  un : x.us.length ≤ K ∧ x.ro ≤ K ∧ x.re ≤ 200 * K
  qq : q ≤ Q
  lg : lag ≤ 20
section
variable {w wr W : World} {cf : Cfg} {g b : Nat} {s : SE} {x : H} {lv : Value} {C : Array Value} {lag q sh n K Q : Nat}
theorem SF.below (h : SF w wr cf g b s x lv C lag q sh n K Q) (hb : Below wr.heap.size wr W) : SF w W cf g b s x lv C lag q sh n K Q :=
  { h with ha := h.ha.below hb, wt := h.wt.below hb, lo := h.lo.trans (hb.mono h.lo.size) }
theorem SF.up (h : SF w wr cf g b s x lv C lag q sh n K Q) : SF w wr cf g b s x lv C lag q sh n (K + 1) Q := { h with un := by have := h.un; omega }
theorem SF.turn {x' : H} {K' : Nat} (h : SF w wr cf g b s x lv C lag q sh n K Q) (ht : HTurn wr cf s x' W) (j : J cf x') (gr : Grows x x') (hu : x'.us.length ≤ K' ∧ x'.ro ≤ K' ∧ x'.re ≤ 200 * K') :
    ∃ s', SF w W cf g b s' x' lv C lag q sh n K' Q := by
  obtain ⟨s', es, hA, hT, hF⟩ := ht.at
  have hsz := h.lo.size
  refine ⟨s', ⟨es.1.trans h.ea, hA, j, ?_, Int.le_trans h.hn gr.sure, h.hs, fun k hk h2 => ?_, h.lo.trans (hT.below hsz h.ba), fun k hk => ?_, h.b0, h.l0, hu, h.qq, h.lg⟩⟩
  · rw [gr.fo h.hn]
    exact h.wt.touch hT (h.ha.other' h.wt.blk (by decide)) h.ap
  · rcases hF k h2 with a | a
    · exact h.ap k hk a
    · have := h.wt.lst.lt k hk; omega
  · rcases hF k hk with a | a
    · exact h.ba k a
    · omega
theorem SF.adv (h : SF w wr cf g b s x lv C lag q sh n K Q) (hK : K < 60) (u : Nat) (hu : u < 65536) :
    Calls Try.prog 26 #[.pointer (some ⟨g, 0, none⟩), .int .u16 u] wr fun ee w' => (∃ z, ee = .returned (.int .i64 z)) ∧ ∃ s' x', SF w w' cf g b s' x' lv C lag q sh n (K + 1) Q := by
  have hun := h.un
  have hc := advance_h wr cf s x u K h.ha h.j hu (by omega) (by omega) hun.2.1 hun.2.2
  rw [h.ea] at hc
  refine hc.mono fun ee w' ⟨he, ht⟩ => ⟨⟨_, he⟩, ?_⟩
  have gr := Grows.adv h.j hu (by omega)
  obtain ⟨s', h'⟩ := h.turn (K' := K + 1) ht (h.j.adv hu (by omega)) gr (by
    by_cases hT : advT cf x
    · have e2 : advH cf x u = x := if_pos hT
      rw [e2]; omega
    · have := adv_hist' h.j hu (by omega) hT
      omega)
  exact ⟨s', _, h'⟩
theorem SF.rem (h : SF w wr cf g b s x lv C lag q sh n K Q) (u : Nat) (hu : u < 65536) :
    Calls Try.prog 27 #[.pointer (some ⟨g, 0, none⟩), .int .u16 u] wr fun ee w' => (∃ z z2, ee = .returned (.tuple #[.int .i64 z, .int .i64 z2])) ∧ ∃ s' x', SF w w' cf g b s' x' lv C lag q sh n (K + 1) Q := by
  have hun := h.un
  have hc := addRemote_h h.ha h.j u
  rw [h.ea] at hc
  refine hc.mono fun ee w' ⟨he, ht⟩ => ⟨⟨_, _, he⟩, ?_⟩
  obtain ⟨s', h'⟩ := h.turn (K' := K + 1) ht (h.j.addR hu) (Grows.addR (c := cf) (x := x) u) (by
    unfold addHR
    split
    · omega
    · show x.us.length ≤ K + 1 ∧ x.ro ≤ K + 1 ∧ x.re ≤ 200 * (K + 1); omega)
  exact ⟨s', _, h'⟩
theorem SF.fix (h : SF w wr cf g b s x lv C lag q sh n K Q) (hK : K < 60) :
    Calls Try.prog 28 #[.pointer (some ⟨g, 0, none⟩)] wr fun ee w' => (∃ z, ee = .returned (.int .i64 z)) ∧ ∃ s' x', SF w w' cf g b s' x' lv C lag q sh n (K + 1) Q := by
  have hun := h.un
  have hc := fix_h h.ha h.j K (by omega) hun.2.1 hun.2.2
  rw [h.ea] at hc
  refine hc.mono fun ee w' ⟨he, ht⟩ => ⟨⟨_, he⟩, ?_⟩
  have hfc := fix_counts' h.j
  obtain ⟨s', h'⟩ := h.turn (K' := K + 1) ht h.j.fix (Grows.fix h.j) (by rw [fixH_len h.j]; omega)
  exact ⟨s', _, h'⟩
theorem SF.known (h : SF w wr cf g b s x lv C lag q sh n K Q) : Calls Try.prog 18 #[.pointer (some ⟨b, 0, none⟩)] wr fun e w' => e = .returned (.int .i64 (n : Int)) ∧ wr = w' := by
  obtain ⟨a, cc, rfl, h1, h2, h3⟩ := h.wt.sl
  have := Spe.known_any wr b a _ cc h.wt.c1
  rw [fo_len] at this
  exact this
theorem SF.sure (h : SF w wr cf g b s x lv C lag q sh n K Q) : Calls Try.prog 30 #[.pointer (some ⟨g, 0, none⟩)] wr fun e w' => e = .returned (.int .i64 (sureH x)) ∧ ∃ n, w' = wr.drewN n := by
  have := sure_h h.ha h.j.j0
  rw [h.ea] at this
  exact this
/-- Follow: all that is sure is known. -/
theorem SF.follow (h : SF w wr cf g b s x lv C lag q sh n K Q) (hK : K ≤ 60) : ∃ m : Nat, (m : Int) = sureH x ∧
    Calls Try.prog 29 #[.pointer (some ⟨b, 0, none⟩), .pointer (some ⟨g, 0, none⟩)] wr fun e w' => e = .returned (.int .i64 ((m : Int) - n)) ∧ ∃ lv', SF w w' cf g b s x lv' C lag q sh m K Q := by
  have hun := h.un
  have hnn := sure_nn x
  refine ⟨(sureH x).toNat, by omega, ?_⟩
  have hm : ((sureH x).toNat : Int) = sureH x := by omega
  have hc := follow_any wr cf s x b lv lag q C _ n h.ha h.j (by omega) h.wt h.hn h.ap
  rw [h.ea] at hc
  rw [hm]
  refine hc.mono fun e w' ⟨he, lv', hR⟩ => ⟨he, lv', ?_⟩
  have hs := h.hs
  have hn := h.hn
  have hwt := hR.wt
  rw [fo_pl h.j h.hn hs, ← fo_pl h.j (n := (sureH x).toNat) (by omega) (show sh ≤ (sureH x).toNat by omega)] at hwt
  refine { h with ha := hR.ha, wt := hwt, hn := by omega, hs := by omega, ap := hR.ap, lo := h.lo.trans (hR.T.below h.lo.size (fun k hk => hk.elim (fun e => e ▸ h.b0) (h.l0 k))), l0 := fun k hk => ?_ }
  rcases hR.ow k hk with e | e
  · exact h.l0 k e
  · exact Nat.le_trans h.lo.size e
/-- A tick. -/
theorem SF.tick (h : SF w wr cf g b s x lv C lag q sh n K Q) (hK : K ≤ 60) (hQ : Q ≤ 60) : Calls Try.prog 17 #[.pointer (some ⟨b, 0, none⟩)] wr fun e w' => (∃ z, e = .returned (.int .i64 z)) ∧ ∃ C' q' sh', SF w w' cf g b s x lv C' lag q' sh' n K (Q + 1) := by
  have hun := h.un
  have hs := sureH_le x
  have hn := h.hn
  have hqq := h.qq
  have hlg := h.lg
  have hsh := h.hs
  have hc := Spe.wtick_any wr b cf.sd lv lag q sh C (fo x n) h.wt h.j.sd (fo_inb h.j n) (by rw [fo_len]; exact h.hs) (by rw [fo_len]; omega) (by omega) (by omega)
  rw [fo_len] at hc
  refine hc.mono fun e w' ⟨he, C', hW, hT⟩ => ⟨⟨_, he⟩, C', Spe.wtN q (Spe.tkN n lag sh), sh + Spe.tkN n lag sh, ?_⟩
  have hg : ¬ fpE s b := h.ha.other' h.wt.blk (by decide)
  refine { h with ha := h.ha.touch hT (fun k hk e => hg (e ▸ hk)), wt := hW, hs := Spe.tkN_le n lag sh h.hs, lo := h.lo.trans (hT.below h.lo.size (fun k hk => hk ▸ h.b0)), qq := ?_ }
  have := Spe.wtN_le q (Spe.tkN n lag sh)
  omega
theorem SF.shown (h : SF w wr cf g b s x lv C lag q sh n K Q) : Calls Try.prog 19 #[.pointer (some ⟨b, 0, none⟩)] wr fun e w' => e = .returned (.int .i64 (sh : Int)) ∧ wr = w' := by
  have c3 := h.wt.c3
  rw [(Spe.pf_inv h.j.sd (fo x n) sh).frame] at c3
  exact Spe.shown_any wr b _ c3
theorem SF.at (h : SF w wr cf g b s x lv C lag q sh n K Q) (hK : K ≤ 60) : Calls Try.prog 31 #[.pointer (some ⟨g, 0, none⟩), .int .i64 (sh : Int)] wr fun e w' => e = .returned (.tuple #[.agg C, .int .i64 0]) ∧ Below wr.heap.size wr w' := by
  have hun := h.un
  have hs := h.hs
  have hn := h.hn
  have hsl := sureH_le x
  have hc := at_h wr cf s x sh h.ha h.j (by omega)
  rw [h.ea] at hc
  have e0 : atHE x sh = 0 := by unfold atHE; rw [if_neg (by omega), if_neg (by omega)]
  refine hc.mono fun e w' ⟨C', LC', he, hb⟩ => ⟨?_, hb⟩
  have ef : atHF cf x sh = Spe.pf cf.sd (fo x n) sh := by
    unfold atHF
    rw [if_pos e0, Int.toNat_natCast, fo_pl h.j h.hn h.hs]
  rw [ef] at LC'
  rw [he, e0, LC'.eq, h.wt.st.eq]
theorem SF.state (h : SF w wr cf g b s x lv C lag q sh n K Q) (hb : Below wr.heap.size wr W) : Calls Try.prog 23 #[.pointer (some ⟨b, 0, none⟩)] W fun e w' => e = .returned (.agg C) ∧ Below W.heap.size W w' :=
  Spe.wstate_any W b cf.sd lv _ _ C _ _ (h.wt.below hb)
theorem SF.same (h : SF w wr cf g b s x lv C lag q sh n K Q) (hK : K ≤ 60) : ∀ W, (Op.equalIn 10000 53 (.agg C) (.agg C)).run Try.prog W = .ok true W := by
  obtain ⟨e, -, -, -⟩ := h.wt.st
  have hun := h.un
  have hs := h.hs
  have hn := h.hn
  have hsl := sureH_le x
  have wf := (Spe.pf_inv h.j.sd (fo x n) sh).wf (by omega) (by omega) (by omega)
  rw [e]
  intro W
  exact st_same W wf wf rfl
/-- The start. -/
theorem SF.start {w3 w4 : World} {sd : Nat} (hA : HAt w3 cf s (newH cf)) (hj : J cf (newH cf)) (b3 : Below w.heap.size w w3) (fa : ∀ k, fpE s k → w.heap.size ≤ k) (hW : Spe.Wt w4 b sd (.slice none 0 0) (lag : Int) C (newF (sd : Int)) 0 []) (b4 : Below w3.heap.size w3 w4) (hb : w3.heap.size ≤ b) (hsd : cf.sd = sd) (hlg : lag ≤ 20) :
    SF w w4 cf s.g b s (newH cf) (.slice none 0 0) C lag 0 0 0 0 0 := by
  have hn : ∀ k, Value.ownBlock (.slice none 0 0) = some k → False := fun k hk => by simp [Value.ownBlock] at hk
  subst hsd
  exact ⟨rfl, hA.below b4, hj, hW, sure_nn _, Nat.le_refl _, fun k hk => (hn k hk).elim, b3.trans (b4.mono b3.size), fa, Nat.le_trans b3.size hb, fun k hk => (hn k hk).elim, ⟨by simp [newH], by simp [newH], by simp [newH]⟩, Nat.le_refl _, hlg⟩
end
theorem sure_new (cf : Cfg) : sureH (newH cf) = 0 := by
  have := sure_nn (newH cf)
  have h := (sureH_le (newH cf)).1
  simp [newH] at h this ⊢
  omega
end Go.Proofs.Ytckkpgopddnkiaa.Rl
namespace Go.Proofs.Ytckkpgopddnkiaa.Rl
open Go.RowKit Go.Sort Go.Proofs.Ytckkpgopddnkiaa.Gm Go.Proofs.Ytckkpgopddnkiaa.RingE Go.Proofs.Ytckkpgopddnkiaa.Inputq
set_option linter.all false

def folB (lo de ah lag : Int) : Prop := ¬ lag < 0 ∧ ¬ 20 < lag ∧ ¬ lo < 0 ∧ ¬ 1 < lo ∧ ¬ ah < 1 ∧ ¬ 16 < ah ∧ ¬ de < 0 ∧ ¬ 8 < de
set_option maxRecDepth 100000 in
set_option maxHeartbeats 4000000 in
theorem follows_out (w : World) (sd lo de ah lag : Int) (v : Value) (hr : ¬ folB lo de ah lag) :
    Calls Try.prog 4 #[.agg #[.int .u32 sd, .int .i64 lo, .int .i64 de, .int .i64 ah], v, .int .i64 lag] w fun e w' => e = .returned (.bool true) ∧ Below w.heap.size w w' := by
  have pA := Lib.hid (fun W => Spe.awake31 W)
  obtain ⟨W1, hW1⟩ : ∃ W1, W1 = w.alloc (.cells #[.int .u32 sd, .int .i64 lo, .int .i64 de, .int .i64 ah] 58) := ⟨_, rfl⟩
  have hX : Blk W1 w.heap.size 58 #[.int .u32 sd, .int .i64 lo, .int .i64 de, .int .i64 ah] := by rw [hW1]; exact Blk.new _ _ _
  have hB : Below w.heap.size w W1 := by rw [hW1]; exact (Below.refl _ w).alloc (Nat.le_refl _) _
  go_enter Try.func4, Try.ntmps4
  go_upto_region 1 with fail
  rw [← hW1]
  clear hW1
  go_wp2_with fail
  refine (pA.out _).mono ?_
  rintro e w1 ⟨rfl, b1⟩
  have hX1 := hX.below b1 hX.lt
  have k0 := hX1.cell 0
  have k1 := hX1.cell 1
  have k2 := hX1.cell 2
  have k3 := hX1.cell 3
  simp only [List.getElem?_toArray, List.getElem?_cons_zero, List.getElem?_cons_succ] at k0 k1 k2 k3
  have HB := Lib.hid (hB.trans (b1.mono hB.size))
  have HR := Lib.hid hr
  clear hX hX1 hB b1 hr
  by_cases h1 : lag < 0
  · go_wp2_with fail
    go_ret
    exact ⟨rfl, HB.out⟩
  by_cases h2 : 20 < lag
  · go_wp2_with fail
    go_ret
    exact ⟨rfl, HB.out⟩
  by_cases h3 : lo < 0
  · go_wp2_with fail
    go_ret
    exact ⟨rfl, HB.out⟩
  by_cases h4 : 1 < lo
  · go_wp2_with fail
    go_ret
    exact ⟨rfl, HB.out⟩
  by_cases h5 : ah < 1
  · go_wp2_with fail
    go_ret
    exact ⟨rfl, HB.out⟩
  by_cases h6 : 16 < ah
  · go_wp2_with fail
    go_ret
    exact ⟨rfl, HB.out⟩
  by_cases h7 : de < 0
  · go_wp2_with fail
    go_ret
    exact ⟨rfl, HB.out⟩
  by_cases h8 : 8 < de
  · go_wp2_with fail
    go_ret
    exact ⟨rfl, HB.out⟩
  exact absurd ⟨h1, h2, h3, h4, h5, h6, h7, h8⟩ HR.out

theorem rowIn_regrown' {w : World} {g o n : Nat} {L : List Value} (h : rowIn w g o n = some L) (d : Nat) (os : Array Obj) : rowIn (grow (redrawn w d) os) g o n = some L := by
  obtain ⟨h1, h2⟩ := of_rowIn h
  exact rowIn_of (fun j v hj => cell_regrown (h1 j v hj) d os) h2
section
attribute [local go_sem ↓] exec33 exec_st33
attribute [local go_sem] loadE33 loadI_some rowIn_drew Array.toArray_toList
set_option maxRecDepth 100000 in
set_option maxHeartbeats 16000000 in
theorem follows_in (w : World) (cf : Cfg) (lag : Nat) (hsd : cf.sd < 4294967296) (hlo : cf.lo < 2) (hah : 1 ≤ cf.ah ∧ cf.ah ≤ 16) (hde : 0 ≤ cf.de ∧ cf.de ≤ 8) (hlag : lag ≤ 20) (a : Option Addr) (c : Nat) (ops : List (Int × Nat × Int)) (hops : ROps w a ops) (hlen : ops.length ≤ 9223372036854775807) :
    Calls Try.prog 4 #[.agg #[.int .u32 (cf.sd : Int), .int .i64 (cf.lo : Int), .int .i64 cf.de, .int .i64 cf.ah], .slice a ops.length c, .int .i64 (lag : Int)] w fun e w' => e = .returned (.bool true) ∧ Below w.heap.size w w' := by
  have pA := Lib.hid (fun W => Spe.awake31 W)
  have hj0 : J cf (newH cf) := newH_J hsd hlo hah hde
  have pN := Lib.hid (fun W => new_any W cf hsd hlo hah hde)
  unfold cV at pN
  have pW := Lib.hid (fun W => Spe.wnew_any W cf.sd (lag : Int) hsd (by omega) (by omega))
  have HJ0 := Lib.hid hj0
  have HOPS := Lib.hid hops
  obtain ⟨l, hl⟩ : ∃ l, ops.length = l := ⟨_, rfl⟩
  have HL := Lib.hid hl
  rw [hl] at hlen ⊢
  obtain ⟨W1, hW1⟩ : ∃ W1, W1 = w.alloc (.cells #[.int .u32 (cf.sd : Int), .int .i64 (cf.lo : Int), .int .i64 cf.de, .int .i64 cf.ah] 58) := ⟨_, rfl⟩
  have hX : Blk W1 w.heap.size 58 #[.int .u32 (cf.sd : Int), .int .i64 (cf.lo : Int), .int .i64 cf.de, .int .i64 cf.ah] := by rw [hW1]; exact Blk.new _ _ _
  have hB : Below w.heap.size w W1 := by rw [hW1]; exact (Below.refl _ w).alloc (Nat.le_refl _) _
  have t1 : ¬ (lag : Int) < 0 := by omega
  have t2 : ¬ (20 : Int) < (lag : Int) := by omega
  have t3 : ¬ (cf.lo : Int) < 0 := by omega
  have t4 : ¬ (1 : Int) < (cf.lo : Int) := by omega
  have t5 : ¬ cf.ah < 1 := by omega
  have t6 : ¬ 16 < cf.ah := by omega
  have t7 : ¬ cf.de < 0 := by omega
  have t8 : ¬ 8 < cf.de := by omega
  clear hops hl hj0 hsd hlo hah hde
  go_enter Try.func4, Try.ntmps4
  go_upto_region 1 with fail
  rw [← hW1]
  clear hW1
  go_wp2_with fail
  refine (pA.out _).mono ?_
  rintro e w1 ⟨rfl, b1⟩
  have hX1 := hX.below b1 hX.lt
  have k0 := hX1.cell 0
  have k1 := hX1.cell 1
  have k2 := hX1.cell 2
  have k3 := hX1.cell 3
  simp only [List.getElem?_toArray, List.getElem?_cons_zero, List.getElem?_cons_succ] at k0 k1 k2 k3
  have HX1 := Lib.hid hX1
  have HB := Lib.hid (hB.trans (b1.mono hB.size))
  clear hX hX1 hB b1
  go_wp2_with fail
  refine (pN.out _).mono ?_
  rintro e w3 ⟨s, rfl, hA, b3, fa⟩
  have hX3 := HX1.out.below b3 HX1.out.lt
  have k0 := hX3.cell 0
  simp only [List.getElem?_toArray, List.getElem?_cons_zero, List.getElem?_cons_succ] at k0
  have hz2 := HB.out.size
  have HFA := Lib.hid (show ∀ k, fpE s k → w.heap.size ≤ k from fun k hk => Nat.le_trans hz2 (fa k hk))
  have HB3 := Lib.hid (HB.out.trans (b3.mono HB.out.size))
  have HA := Lib.hid hA
  clear hX3 b3 HB HX1 hA fa hz2 k1 k2 k3 t1 t2 t3 t4 t5 t6 t7 t8
  obtain ⟨g, hg⟩ : ∃ g, s.g = g := ⟨_, rfl⟩
  rw [hg]
  have HG := Lib.hid hg
  clear hg
  go_wp2_with fail
  refine (pW.out _).mono ?_
  rintro e w4 ⟨b, C, rfl, hW4, b4, hb4⟩
  have hS := SF.start HA.out HJ0.out HB3.out HFA.out hW4 b4 hb4 rfl hlag
  rw [HG.out] at hS
  clear hlag
  have HS0 := Lib.hid hS
  clear hS hW4 b4 hb4 HA HB3 HFA HG k0 pW pN pA
  go_wp2_with fail
  (try simp only [Bool.or_false, Bool.and_true, Bool.or_self, Bool.and_self, Bool.true_and, Bool.false_or])
  go_loopw [11] (fun iv wr => ∃ (i : Nat) (s : SE) (x : H) (lv : Value) (C : Array Value) (q sh n : Nat), i ≤ 50 ∧ iv = .int .i64 (i : Int) ∧ SF w wr cf g b s x lv C lag q sh n i i) (fun iv _ => 50 - (intOf iv).toNat)
  case atStart => exact ⟨0, s, _, _, C, 0, 0, 0, by omega, rfl, HS0.out⟩
  case round =>
    clear HS0 HJ0
    obtain ⟨i, s, x, lv, C, q, sh, n, hi, rfl, hX⟩ := hrel
    have HX := Lib.hid hX
    by_cases c1 : i < l
    · have c1' : (i : Int) < (l : Int) := by omega
      have c1'' : decide ((i : Int) < (l : Int)) = true := by simp; omega
      by_cases c2 : i < 50
      · have c2' : (i : Int) < 50 := by omega
        obtain ⟨o, ho⟩ : ∃ o, ops[i]? = some o := ⟨_, List.getElem?_eq_getElem (by rw [HL.out]; exact c1)⟩
        obtain ⟨hb1, hb2, hb3⟩ := HOPS.out.1 o (List.mem_of_getElem? ho)
        obtain ⟨ob, off, rfl, hbl, hcs⟩ := HOPS.out.2 (by rw [HL.out]; omega)
        obtain ⟨k0, k1, k2⟩ := hcs i o ho
        obtain ⟨kd, u, of⟩ := o
        have z0 : wr.cell? ⟨ob, off + i * 3, none⟩ = some (.int .i64 kd) := (HX.out.lo.cell (p := ⟨ob, off + i * 3, none⟩) hbl).trans k0
        have z1 : wr.cell? ⟨ob, off + i * 3 + 1, none⟩ = some (.int .u16 (u : Int)) := (HX.out.lo.cell (p := ⟨ob, off + i * 3 + 1, none⟩) hbl).trans k1
        have z2 : wr.cell? ⟨ob, off + i * 3 + 1 + 1, none⟩ = some (.int .i64 of) := (HX.out.lo.cell (p := ⟨ob, off + i * 3 + 1 + 1, none⟩) hbl).trans k2
        simp only at hb1 hb2 hb3
        have j0 : (0 : Int) ≤ (i : Int) := by omega
        have HX6 := Lib.hid (HX.out.below ((Below.refl _ wr).alloc (Nat.le_refl _) (.cells #[.int .i64 kd, .int .u16 (u : Int), .int .i64 of] 64)))
        clear hcs k0 k1 k2 hX HX ho
        go_upto_block 2 with fail
        have HO := Lib.hid (Blk.new wr 64 #[.int .i64 kd, .int .u16 (u : Int), .int .i64 of])
        obtain ⟨W6, hW6⟩ : ∃ W6, W6 = wr.alloc (.cells #[.int .i64 kd, .int .u16 (u : Int), .int .i64 of] 64) := ⟨_, rfl⟩
        rw [← hW6] at HX6 HO ⊢
        clear hW6 z0 z1 z2
        have o1 : W6.cell? ⟨wr.heap.size, 1, none⟩ = some (.int .u16 (u : Int)) := HO.out.cell 1
        go_cut [] (fun wx => ∃ s' x', SF w wx cf g b s' x' lv C lag q sh n (i + 1) i)
        case first =>
          by_cases e0 : kd = 0
          · subst e0
            have pV := Lib.hid (HX6.out.adv (by omega) u hb1)
            clear HX6
            go_wp2_with fail
            refine pV.out.mono ?_
            rintro ee w7 ⟨⟨z, rfl⟩, s', x', h7⟩
            have H7 := Lib.hid h7
            clear h7 pV
            go_wp2_with fail
            go_meet
            exact ⟨s', x', H7.out⟩
          · by_cases e1 : kd = 1
            · subst e1
              clear e0
              have pV := Lib.hid (HX6.out.rem u hb1)
              clear HX6
              go_wp2_with fail
              refine pV.out.mono ?_
              rintro ee w7 ⟨⟨z, z2, rfl⟩, s', x', h7⟩
              have H7 := Lib.hid h7
              clear h7 pV
              go_wp2_with fail
              go_meet
              exact ⟨s', x', H7.out⟩
            · by_cases e2 : kd = 2
              · subst e2
                clear e0 e1
                have pV := Lib.hid (HX6.out.fix (by omega))
                clear HX6
                go_wp2_with fail
                refine pV.out.mono ?_
                rintro ee w7 ⟨⟨z, rfl⟩, s', x', h7⟩
                have H7 := Lib.hid h7
                clear h7 pV
                go_wp2_with fail
                go_meet
                exact ⟨s', x', H7.out⟩
              · have H8 := Lib.hid HX6.out.up
                clear HX6
                go_wp2_with fail
                go_meet
                exact ⟨_, _, H8.out⟩
        case rest =>
          obtain ⟨s', x', hcut⟩ := hcut
          have H := Lib.hid hcut
          clear hcut HX6 HO o1
          obtain ⟨m, hm, pFo⟩ := H.out.follow (by omega)
          have hmb : m ≤ 100 ∧ n ≤ m := by
            have := (sureH_le x').1
            have := H.out.un
            have := H.out.hn
            omega
          have hmw : IntKind.i64.wrap ((m : Int) - n) = (m : Int) - n := IntWalk.i64_in _ (by omega)
          have pK := Lib.hid H.out.known
          have PF := Lib.hid pFo
          have HM := Lib.hid hm
          clear pFo hm
          go_wp2_with fail
          refine pK.out.mono ?_
          rintro e w7 ⟨rfl, hw⟩
          obtain rfl := hw
          go_wp2_with fail
          refine PF.out.mono ?_
          rintro e w8 ⟨rfl, lv', h8⟩
          have pS := Lib.hid h8.sure
          rw [← HM.out] at pS
          have H8 := Lib.hid h8
          clear h8 pK PF H
          go_wp2_with fail
          refine pS.out.mono ?_
          rintro e w9 ⟨rfl, d, rfl⟩
          have H9 := Lib.hid (H8.out.below (below_drewN (Below.refl _ w8) d))
          generalize w8.drewN d = W9 at *
          have pK := Lib.hid H9.out.known
          clear pS H8
          go_wp2_with fail
          refine pK.out.mono ?_
          rintro e w10 ⟨rfl, hw⟩
          obtain rfl := hw
          have pS := Lib.hid H9.out.sure
          rw [← HM.out] at pS
          clear pK
          go_wp2_with fail
          refine pS.out.mono ?_
          rintro e w11 ⟨rfl, d, rfl⟩
          have H11 := Lib.hid (H9.out.below (below_drewN (Below.refl _ W9) d))
          generalize W9.drewN d = W11 at *
          have pT := Lib.hid (H11.out.tick (by omega) (by omega))
          clear pS H9
          go_wp2_with fail
          refine pT.out.mono ?_
          rintro e w12 ⟨⟨z, rfl⟩, C', q', sh', h12⟩
          have pSh := Lib.hid h12.shown
          have H12 := Lib.hid h12
          clear h12 pT H11
          go_wp2_with fail
          refine pSh.out.mono ?_
          rintro e w13 ⟨rfl, hw⟩
          obtain rfl := hw
          have pA := Lib.hid (H12.out.at (by omega))
          clear pSh
          go_wp2_with fail
          refine pA.out.mono ?_
          rintro e w14 ⟨rfl, b14⟩
          have h14 := H12.out.below b14
          have hLC := h14.wt.st
          obtain ⟨W15, hst15, hB15, b15⟩ := storeNewB w14 hLC
          have h15 := h14.below b15
          have hcs : C'.size = 66 := hLC.size
          have hrx := rowIn_of (w := W15) (g := w14.heap.size) (o := 0) (n := 66) (L := C'.toList) (fun j v hj => by rw [Nat.zero_add]; exact (hB15.cell j).trans (by rw [← Array.getElem?_toList]; exact hj)) (by rw [Array.length_toList]; exact hcs)
          have hrx' := rowIn_regrown' hrx
          have cS := regrown W15 (fun W hb => h15.state hb)
          have hEq := h15.same (by omega)
          have H15 := Lib.hid h15
          clear h14 hLC hB15 b15 h15 hrx pA H12 b14
          go_upto_region 25 with fail
          clear hst15
          refine wp_region_quiet_below (by kernel_rfl) (by kernel_rfl) ?_
          repeat (quiet_step (first | exact cS _ _))
          refine wpQuiet_nil ?_
          intro W16 hw'
          obtain ⟨⟨dq, osq⟩, hw''⟩ := hw'
          have hb16 : Below W15.heap.size W15 W16 := by rw [hw'']; exact below_regrown _ _ _
          have H16 := Lib.hid (H15.out.below hb16)
          clear hw'' cS hrx' hb16 H15
          go_wp2_with fail
          go_roundw
          case rel => exact ⟨i + 1, s', x', lv', C', q', sh', m, by omega, by go_num, H16.out⟩
          case measure => simp [intOf]; omega
      · obtain rfl : i = 50 := by omega
        rw [show ((50 : Nat) : Int) = 50 from rfl] at c1' c1'' ⊢
        clear hX
        have pSh := Lib.hid HX.out.shown
        have pK := Lib.hid HX.out.known
        have HLE := Lib.hid (show (sh : Int) ≤ (n : Int) from by have := HX.out.hs; omega)
        have hle := HLE.out
        have hle' : decide ((sh : Int) ≤ (n : Int)) = true := decide_eq_true hle
        have HLO := Lib.hid HX.out.lo
        clear HX
        go_wp2_with fail
        refine pSh.out.mono ?_
        rintro e w7 ⟨rfl, hw⟩
        obtain rfl := hw
        go_wp2_with fail
        refine pK.out.mono ?_
        rintro e w8 ⟨rfl, hw⟩
        obtain rfl := hw
        go_wp2_with fail
        go_ret
        exact ⟨by simp [hle'], HLO.out⟩
    · obtain ⟨c1', c1''⟩ : ¬ (i : Int) < (l : Int) ∧ decide ((i : Int) < (l : Int)) = false := ⟨by omega, by simp; omega⟩
      clear hX
      have pSh := Lib.hid HX.out.shown
      have pK := Lib.hid HX.out.known
      have HLE := Lib.hid (show (sh : Int) ≤ (n : Int) from by have := HX.out.hs; omega)
      have hle := HLE.out
      have hle' : decide ((sh : Int) ≤ (n : Int)) = true := decide_eq_true hle
      have HLO := Lib.hid HX.out.lo
      clear HX
      go_wp2_with fail
      refine pSh.out.mono ?_
      rintro e w7 ⟨rfl, hw⟩
      obtain rfl := hw
      go_wp2_with fail
      refine pK.out.mono ?_
      rintro e w8 ⟨rfl, hw⟩
      obtain rfl := hw
      go_wp2_with fail
      go_ret
      exact ⟨by simp [hle'], HLO.out⟩
end
end Go.Proofs.Ytckkpgopddnkiaa.Rl
namespace Go.Proofs.Ytckkpgopddnkiaa.Rl
open Go.RowKit Go.WideShapes Go.ChangeShapes Go.ChangeAt Go.Deep Go.Proofs.Ytckkpgopddnkiaa.Eql Go.Proofs.Ytckkpgopddnkiaa.Gm
set_option linter.all false

theorem keyRo : Try.prog.keyTypeAt 4 64 = true := by kernel_rfl
theorem tiledRo : Try.prog.tiled 4 64 = true := by kernel_rfl
theorem litsRo : Try.prog.keyLits 4 64 [.int .i64 0, .int .u16 0, .int .i64 0] = some [.int .i64 0, .int .u16 0, .int .i64 0] := by kernel_rfl
theorem keyCf : Try.prog.keyTypeAt 4 58 = true := by kernel_rfl
theorem tiledCf : Try.prog.tiled 4 58 = true := by kernel_rfl
theorem litsCf : Try.prog.keyLits 4 58 [.int .u32 0, .int .i64 0, .int .i64 0, .int .i64 0] = some [.int .u32 0, .int .i64 0, .int .i64 0, .int .i64 0] := by kernel_rfl
theorem int_likeRo {x : Lit} {k : IntKind} {n : Int} (h : x.sameKind (.int k n)) : ∃ m, x = .int k m := by
  cases x <;> simp [Lit.sameKind] at h
  subst h
  exact ⟨_, rfl⟩
theorem ro_of_lits {cs : List Value} {l : List Lit} (hk : Try.prog.keyLits 4 64 cs = some l) :
    ∃ o : Int × Nat × Int, cs = [.int .i64 o.1, .int .u16 (o.2.1 : Int), .int .i64 o.2.2] ∧ o.2.1 < 65536 ∧ (-9223372036854775808 ≤ o.1 ∧ o.1 ≤ 9223372036854775807) ∧ (-9223372036854775808 ≤ o.2.2 ∧ o.2.2 ≤ 9223372036854775807) := by
  have e := cells_of_lits 4 _ tiledRo _ _ _ hk
  have hal := keyLits_alike hk litsRo
  have w := keyLits_wf hk
  match l, hal, e, w with
  | [x0, x1, x2], ⟨h0, h1, h2, _⟩, e, w =>
    obtain ⟨a0, rfl⟩ := int_likeRo h0
    obtain ⟨a1, rfl⟩ := int_likeRo h1
    obtain ⟨a2, rfl⟩ := int_likeRo h2
    have b1 := I2.bounds_u16 (w (.int .u16 a1) (by simp))
    obtain ⟨m1, rfl⟩ : ∃ m1 : Nat, a1 = m1 := ⟨a1.toNat, by omega⟩
    exact ⟨(a0, m1, a2), e, show m1 < 65536 by omega, bounds_i64 (w (.int .i64 a0) (by simp)), bounds_i64 (w (.int .i64 a2) (by simp))⟩
theorem cf_of_lits {cs : List Value} {l : List Lit} (hk : Try.prog.keyLits 4 58 cs = some l) :
    ∃ sd : Nat, ∃ lo de ah : Int, cs = [.int .u32 (sd : Int), .int .i64 lo, .int .i64 de, .int .i64 ah] ∧ sd < 4294967296 ∧ (-9223372036854775808 ≤ lo ∧ lo ≤ 9223372036854775807) ∧ (-9223372036854775808 ≤ de ∧ de ≤ 9223372036854775807) ∧ (-9223372036854775808 ≤ ah ∧ ah ≤ 9223372036854775807) := by
  have e := cells_of_lits 4 _ tiledCf _ _ _ hk
  have hal := keyLits_alike hk litsCf
  have w := keyLits_wf hk
  match l, hal, e, w with
  | [x0, x1, x2, x3], ⟨h0, h1, h2, h3, _⟩, e, w =>
    obtain ⟨a0, rfl⟩ := int_likeRo h0
    obtain ⟨a1, rfl⟩ := int_likeRo h1
    obtain ⟨a2, rfl⟩ := int_likeRo h2
    obtain ⟨a3, rfl⟩ := int_likeRo h3
    have b0 := I2.bounds_u32 (w (.int .u32 a0) (by simp))
    obtain ⟨m0, rfl⟩ : ∃ m0 : Nat, a0 = m0 := ⟨a0.toNat, by omega⟩
    exact ⟨m0, a1, a2, a3, e, by omega, bounds_i64 (w (.int .i64 a1) (by simp)), bounds_i64 (w (.int .i64 a2) (by simp)), bounds_i64 (w (.int .i64 a3) (by simp))⟩
theorem open_cfg {H : Type} {enc : TypeId × Value → H} {W : World} {base : Nat} {spare : Nat → Bool} {held : Bool} {r : Reach} {b0 : Nat} {v : Value} {d : DataW H} {p : List MemPlace}
    (hv : Value.okWide Try.prog W r b0 58 v) (h : DataW.Trod enc Try.prog W base spare held 58 v d p) :
    ∃ sd : Nat, ∃ lo de ah : Int, v = .agg #[.int .u32 (sd : Int), .int .i64 lo, .int .i64 de, .int .i64 ah] ∧ sd < 4294967296 ∧ (-9223372036854775808 ≤ lo ∧ lo ≤ 9223372036854775807) ∧ (-9223372036854775808 ≤ de ∧ de ≤ 9223372036854775807) ∧ (-9223372036854775808 ≤ ah ∧ ah ≤ 9223372036854775807) := by
  obtain ⟨fuel, hf⟩ := h
  obtain ⟨hk, _⟩ := keyLits_of_trod 4 _ keyCf _ _ _ hf
  obtain ⟨sd, lo, de, ah, e, h0⟩ := cf_of_lits hk
  have hu := Try.underlying58
  simp only [Value.okWide, hu] at hv
  obtain ⟨cs, rfl, _, _⟩ := hv
  refine ⟨sd, lo, de, ah, ?_, h0⟩
  have e2 : cs.toList = [.int .u32 (sd : Int), .int .i64 lo, .int .i64 de, .int .i64 ah] := e
  exact congrArg Value.agg (Array.ext' e2)
set_option maxRecDepth 100000 in
theorem open_rops {H : Type} {enc : TypeId × Value → H} {W : World} {base : Nat} {spare : Nat → Bool} {held : Bool} {t : TypeId} {r : Reach} {b0 : Nat} {v : Value} {d : DataW H} {p : List MemPlace}
    (ht : Try.prog.underlying t = some (.slice 64)) (hv : Value.okWide Try.prog W r b0 t v) (h : DataW.Trod enc Try.prog W base spare held t v d p) :
    ∃ a cap, ∃ ops : List (Int × Nat × Int), v = .slice a ops.length cap ∧ ROps W a ops ∧ ops.length ≤ cap ∧ cap ≤ maxLen := by
  have hc3 : Try.prog.cellsOf 64 = 3 := by kernel_rfl
  obtain ⟨a0, len0, cap0, rfl⟩ := okWide_slice ht hv
  obtain ⟨fuel, hf⟩ := h
  rcases open_slice ht hf with ⟨hcs, _⟩ | ⟨a, len, cap, m, n, D, Pl, hcs, hb, hl, hm, hmm, _, hi⟩
  · simp [Value.cells] at hcs
    obtain ⟨rfl, rfl, rfl⟩ := hcs
    exact ⟨none, 0, [], rfl, ⟨fun x hx => by simp at hx, fun h => by simp at h⟩, by simp, by simp [maxLen]⟩
  · simp [Value.cells] at hcs
    obtain ⟨rfl, rfl, rfl⟩ := hcs
    have hlm : len0 ≤ m := by rw [hmm]; split <;> omega
    have each : ∀ i, i < len0 → ∃ o : Int × Nat × Int, (W.cell? (a.add (i * 3 + 0)) = some (.int .i64 o.1) ∧ W.cell? (a.add (i * 3 + 1)) = some (.int .u16 (o.2.1 : Int)) ∧ W.cell? (a.add (i * 3 + 2)) = some (.int .i64 o.2.2)) ∧
        (o.2.1 < 65536 ∧ (-9223372036854775808 ≤ o.1 ∧ o.1 ≤ 9223372036854775807) ∧ (-9223372036854775808 ≤ o.2.2 ∧ o.2.2 ≤ 9223372036854775807)) := by
      intro i hil
      obtain ⟨cs', hcc, ht'⟩ := hi i (by omega)
      rw [hc3] at hcc
      obtain ⟨hk, _⟩ := keyLits_of_trod 4 _ keyRo _ _ _ ht'
      obtain ⟨o, e, hw⟩ := ro_of_lits hk
      obtain ⟨_, hcl2, hat⟩ := World.cells?_some hcc
      have g : ∀ k, k < 3 → W.cell? (a.add (i * 3 + k)) = ([.int .i64 o.1, .int .u16 (o.2.1 : Int), .int .i64 o.2.2] : List Value)[k]? := fun k hk => by
        have g := hat k hk
        rw [← Go.Deep.add_add, g, e]
      exact ⟨o, ⟨g 0 (by omega), g 1 (by omega), g 2 (by omega)⟩, hw⟩
    obtain ⟨ops, hol, hops⟩ := I2.list_of len0 each
    subst hol
    refine ⟨some a, cap0, ops, rfl, ⟨fun x hx => ?_, fun hp => ?_⟩, hl, hm⟩
    · obtain ⟨i, hi⟩ := List.getElem?_of_mem hx
      exact (hops i x hi).2
    · obtain ⟨b, off, spot⟩ := a
      obtain ⟨x, hx⟩ : ∃ x, ops[0]? = some x := ⟨ops[0]'(by omega), by simp⟩
      have c0 := (hops 0 x hx).1.1
      have hspot : spot = none := by simpa [Addr.add] using World.cell?_spot c0
      subst hspot
      have hadd : ∀ j, (⟨b, off, none⟩ : Addr).add j = ⟨b, off + j, none⟩ := fun j => by unfold Addr.add; split <;> simp_all
      refine ⟨b, off, rfl, ?_, fun j y hy => ?_⟩
      · have := World.block_lt_of_cell? W _ c0
        rw [hadd] at this
        exact this
      · have := (hops j y hy).1
        simp only [hadd, ← Nat.add_assoc, Nat.add_zero] at this
        exact ⟨this.1, this.2.1, this.2.2⟩
end Go.Proofs.Ytckkpgopddnkiaa.Rl
namespace Go.Proofs.Ytckkpgopddnkiaa.Rl
open Go.RowKit Go.Sort Go.Proofs.Ytckkpgopddnkiaa.Gm Go.Proofs.Ytckkpgopddnkiaa.RingE Go.Proofs.Ytckkpgopddnkiaa.Inputq
set_option linter.all false
theorem follows_law (w : World) (sd : Nat) (lo de ah : Int) (hsd : sd < 4294967296) (a : Option Addr) (c : Nat) (ops : List (Int × Nat × Int)) (hops : ROps w a ops) (hl : ops.length ≤ c) (hc : c ≤ maxLen) (lag : Int) :
    Calls Try.prog 4 #[.agg #[.int .u32 (sd : Int), .int .i64 lo, .int .i64 de, .int .i64 ah], .slice a ops.length c, .int .i64 lag] w fun e w' => e = .returned (.bool true) ∧ Below w.heap.size w w' := by
  by_cases h : folB lo de ah lag
  · unfold folB at h
    simp only [maxLen] at hc
    obtain ⟨l, rfl⟩ : ∃ l : Nat, lo = l := ⟨lo.toNat, by omega⟩
    obtain ⟨g, rfl⟩ : ∃ g : Nat, lag = g := ⟨lag.toNat, by omega⟩
    exact follows_in w ⟨sd, l, de, ah⟩ g hsd (show l < 2 by omega) (show 1 ≤ ah ∧ ah ≤ 16 by omega) (show 0 ≤ de ∧ de ≤ 8 by omega) (by omega) a c ops hops (by omega)
  · exact follows_out w sd lo de ah lag _ h
end Go.Proofs.Ytckkpgopddnkiaa.Rl
