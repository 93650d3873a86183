/-
  Texts joined: RdA, RdB, Rnew, Rfire. No condition.
-/
import Derived.Test.YtckkpgopddnkiaaGreatBRp13
import Derived.Lib.QuietBelow
import Derived.Deep.QuietTactic
import Derived.BigQuiet
import Derived.BigRegion
namespace Go.Proofs.YtckkpgopddnkiaaGreat.Rl
open Go.RowKit Go.Sort Go.Proofs.YtckkpgopddnkiaaGreat.Gm Go.Proofs.YtckkpgopddnkiaaGreat.RingE Go.Proofs.YtckkpgopddnkiaaGreat.Inputq
set_option linter.all false

/-- The document's one wrong frame. -/
def wrm (a b : Int) : Int := if 0 ≤ a then (if 0 ≤ b then minI a b else a) else b
def wrH (x : H) : Int := wrm (x.wr 0) (x.wr 1)
def lstH (x : H) (i : Nat) : Nat := (x.ks i).getLastD 0
theorem wrm_le (a b : Int) (ha : -1 ≤ a) (hb : -1 ≤ b) : (wrm a b = -1 ∧ a = -1 ∧ b = -1) ∨ (0 ≤ wrm a b ∧ (a = -1 ∨ wrm a b ≤ a) ∧ (b = -1 ∨ wrm a b ≤ b) ∧ (wrm a b = a ∨ wrm a b = b)) := by
  have m := minI_le a b
  unfold wrm
  split <;> (try split) <;> omega
theorem J.wrH {c : Cfg} {x : H} (j : J c x) : (Rl.wrH x = -1 ∧ x.wr 0 = -1 ∧ x.wr 1 = -1) ∨ (0 ≤ Rl.wrH x ∧ Rl.wrH x < x.us.length) := by
  have a := j.wb 0 (by omega)
  have b := j.wb 1 (by omega)
  have m := wrm_le (x.wr 0) (x.wr 1) (by omega) (by omega)
  show (wrm _ _ = -1 ∧ _) ∨ (0 ≤ wrm _ _ ∧ wrm _ _ < _)
  omega
theorem sureH_wr {c : Cfg} {x : H} (j : J c x) : sureH x = if 0 ≤ Rl.wrH x then minI (minI (confH x) x.us.length) (Rl.wrH x) else minI (confH x) x.us.length := by
  have e0 : sureHN x 0 = minI (confH x) x.us.length := rfl
  have e1 : sureHN x 1 = if 0 ≤ x.wr 0 then minI (sureHN x 0) (x.wr 0) else sureHN x 0 := rfl
  have e2 : sureH x = if 0 ≤ x.wr 1 then minI (sureHN x 1) (x.wr 1) else sureHN x 1 := rfl
  rw [e2, e1, e0]
  generalize minI (confH x) x.us.length = m
  have ew : Rl.wrH x = wrm (x.wr 0) (x.wr 1) := rfl
  rw [ew]
  unfold wrm minI
  repeat' split
  all_goals omega
/-- The document's add. -/
theorem wrH_add {c : Cfg} {x : H} (j : J c x) {i : Nat} (hi : i < 2) (v : Nat) :
    Rl.wrH (addH x i v) = if (x.ks i).length < x.us.length ∧ (col i x.us).getD (x.ks i).length 0 ≠ v ∧ (Rl.wrH x < 0 ∨ ((x.ks i).length : Int) < Rl.wrH x) then ((x.ks i).length : Int) else Rl.wrH x := by
  have a := j.wb 0 (by omega)
  have b := j.wb 1 (by omega)
  have e : Rl.wrH (addH x i v) = wrm (upd x.wr i (wrongA x i v) 0) (upd x.wr i (wrongA x i v) 1) := rfl
  have e' : Rl.wrH x = wrm (x.wr 0) (x.wr 1) := rfl
  rw [e, e']
  by_cases h : (x.ks i).length < x.us.length ∧ (col i x.us).getD (x.ks i).length 0 ≠ v
  · obtain ⟨h1, h2⟩ := h
    have ew : wrongA x i v = if x.wr i < 0 then ((x.ks i).length : Int) else x.wr i := by
      unfold wrongA
      by_cases h3 : x.wr i < 0
      · rw [if_pos ⟨h1, h2, h3⟩, if_pos h3]
      · rw [if_neg (fun h4 => h3 h4.2.2), if_neg h3]
    have ec : ((x.ks i).length < x.us.length ∧ (col i x.us).getD (x.ks i).length 0 ≠ v ∧ (wrm (x.wr 0) (x.wr 1) < 0 ∨ ((x.ks i).length : Int) < wrm (x.wr 0) (x.wr 1))) ↔ (wrm (x.wr 0) (x.wr 1) < 0 ∨ ((x.ks i).length : Int) < wrm (x.wr 0) (x.wr 1)) := ⟨fun h => h.2.2, fun h => ⟨h1, h2, h⟩⟩
    rw [ew]
    simp only [ec]
    clear ec ew h2
    obtain rfl | rfl : i = 0 ∨ i = 1 := by omega
    · rw [upd_at, upd_ne _ _ (by omega)]
      unfold wrm minI
      repeat' split
      all_goals omega
    · rw [upd_at, upd_ne _ _ (by omega)]
      unfold wrm minI
      repeat' split
      all_goals omega
  · have ew : wrongA x i v = x.wr i := if_neg (fun h3 => h ⟨h3.1, h3.2.1⟩)
    rw [if_neg (fun h3 => h ⟨h3.1, h3.2.1⟩), ew]
    obtain rfl | rfl : i = 0 ∨ i = 1 := by omega
    · rw [upd_at, upd_ne _ _ (by omega)]
    · rw [upd_at, upd_ne _ _ (by omega)]
theorem lst_add (x : H) (i v : Nat) (k : Nat) : lstH (addH x i v) k = if k = i then v else lstH x k := by
  show (upd x.ks i (x.ks i ++ [v]) k).getLastD 0 = _
  by_cases e : k = i
  · subst e
    rw [upd_at, if_pos rfl, List.getLastD_eq_getLast?]
    simp
  · rw [upd_ne _ _ e, if_neg e]
    rfl
theorem from_wrH {c : Cfg} {x : H} (j : J c x) (h : 0 ≤ Rl.wrH x) : (fromH x : Int) = Rl.wrH x ∧ (fixN x : Int) = x.us.length - Rl.wrH x ∧ fixN x ≠ 0 ∧ fromH x + fixN x = x.us.length := by
  have e0 : fromN x 0 = x.us.length := rfl
  have e1 : fromN x 1 = if 0 ≤ x.wr 0 then minI (fromN x 0) (x.wr 0) else fromN x 0 := rfl
  have e2 : fromN x 2 = if 0 ≤ x.wr 1 then minI (fromN x 1) (x.wr 1) else fromN x 1 := rfl
  have hf := j.fromH
  have a := j.wb 0 (by omega)
  have b := j.wb 1 (by omega)
  have ew : Rl.wrH x = wrm (x.wr 0) (x.wr 1) := rfl
  have hw := j.wrH
  have en : fixN x = x.us.length - fromH x := rfl
  have key : fromN x 2 = Rl.wrH x := by
    rw [e2, e1, e0, ew]
    rw [ew] at h
    unfold wrm minI at h ⊢
    repeat' split
    all_goals (repeat' split at h)
    all_goals omega
  omega
theorem fix_none {c : Cfg} {x : H} (j : J c x) (h : Rl.wrH x < 0) : fixN x = 0 ∧ fixH x = rH x ∧ ∀ i, i < 2 → x.wr i = -1 := by
  have hw : x.wr 0 = -1 ∧ x.wr 1 = -1 := by have := j.wrH; omega
  have e1 : fromN x 1 = if 0 ≤ x.wr 0 then minI (fromN x 0) (x.wr 0) else fromN x 0 := rfl
  have e2 : fromN x 2 = if 0 ≤ x.wr 1 then minI (fromN x 1) (x.wr 1) else fromN x 1 := rfl
  have e0 : fromN x 0 = x.us.length := rfl
  rw [if_neg (by omega)] at e1 e2
  have hf := j.fromH
  have en : fixN x = 0 := by unfold fixN; omega
  refine ⟨en, ?_, fun i hi => ?_⟩
  · unfold fixH; rw [if_pos en]
  · obtain rfl | rfl : i = 0 ∨ i = 1 := by omega
    · exact hw.1
    · exact hw.2
theorem fix_some {c : Cfg} {x : H} (j : J c x) (h : 0 ≤ Rl.wrH x) : fixH x = { reH (rH x) (fromH x) (fixN x) with ro := x.ro + 1, re := x.re + fixN x, wo := max x.wo (fixN x) } := by
  unfold fixH; rw [if_neg (from_wrH j h).2.2.1]

def inC (x : Nat × Nat) : Array Value := #[.int .u16 (x.1 : Int), .int .u16 (x.2 : Int)]
def lsC (ls : List (Nat × Nat)) : List Value := flat (fun x => (inC x).toList) ls
theorem lsC_len (ls : List (Nat × Nat)) : (lsC ls).length = ls.length * 2 := flat_len (cs := fun x : Nat × Nat => (inC x).toList) (s := 2) (fun _ => rfl) ls
theorem lsC_snoc (ls : List (Nat × Nat)) (x : Nat × Nat) : lsC (ls ++ [x]) = lsC ls ++ (inC x).toList := flat_snoc ls x
theorem lsC_one (ls : List (Nat × Nat)) : ∀ u ∈ lsC ls, u.oneCell' = true := one_flat (fun x u hu => by simp [inC] at hu; rcases hu with rfl | rfl <;> rfl) ls
theorem infoI2 : (Tryz.prog.info? 32).map (fun i => (i.zero, i.size, i.bytes)) = some (some (.agg (inC (0, 0))), 2, 4) := by kernel_rfl
def InB (ls : List (Nat × Nat)) : Prop := ∀ x ∈ ls, x.1 < 65536 ∧ x.2 < 65536
theorem ls_row {W : World} {a : Option Addr} {n c : Nat} {ls : List (Nat × Nat)} (h : On W 32 2 (.slice a n c) ls.length (lsC ls)) (hb : InB ls) : InRow W a ls := by
  refine ⟨hb, fun h0 => ?_⟩
  rcases On.form h with ⟨_, hn, _⟩ | ⟨g, cap, hv, hnc, hcm, how, hgl, hcell, hfr⟩
  · omega
  · cases hv
    refine ⟨g, 0, rfl, hgl, fun j hj => ?_⟩
    have e : ∀ k, k < 2 → (lsC ls)[j * 2 + k]? = some (.int .u16 (inA ls j k)) := fun k hk => by
      unfold lsC
      rw [flat_get (cs := fun x : Nat × Nat => (inC x).toList) (s := 2) (fun _ => rfl) ls (List.getElem?_eq_getElem hj) hk]
      unfold inA
      rw [List.getD_eq_getElem?_getD, List.getElem?_eq_getElem hj]
      obtain rfl | rfl : k = 0 ∨ k = 1 := by omega
      · rfl
      · rfl
    have e0 := hcell (j * 2) _ (e 0 (by omega))
    have e1 := hcell (j * 2 + 1) _ (e 1 (by omega))
    rw [Nat.zero_add]
    exact ⟨e0, e1⟩

/-- Where the document's lists lie. -/
structure DV where
  a0 : Option Addr
  c0 : Nat
  a1 : Option Addr
  c1 : Nat
  au : Option Addr
  cu : Nat
def DV.own (y : DV) (k : Nat) : Prop := Value.ownBlock (.slice y.a0 0 0) = some k ∨ Value.ownBlock (.slice y.a1 0 0) = some k ∨ Value.ownBlock (.slice y.au 0 0) = some k
theorem own_of {a : Option Addr} {n c k : Nat} (h : Value.ownBlock (.slice a n c) = some k) : Value.ownBlock (.slice a 0 0) = some k := by cases a <;> exact h
theorem own_to {a : Option Addr} {n c k : Nat} (h : Value.ownBlock (.slice a 0 0) = some k) : Value.ownBlock (.slice a n c) = some k := by cases a <;> exact h
/-- The document's engine as a value. -/
def dE (c : Cfg) (y : DV) (x : H) : Array Value := #[.int .u32 (c.sd : Int), .int .i64 (c.lo : Int), .int .i64 c.ah, .slice y.a0 (x.ks 0).length y.c0, .slice y.a1 (x.ks 1).length y.c1, .int .u16 (lstH x 0 : Int), .int .u16 (lstH x 1 : Int), .slice y.au x.us.length y.cu, .int .i64 (Rl.wrH x), .int .i64 (x.ro : Int), .int .i64 (x.re : Int), .int .i64 (x.wo : Int)]
structure Doc (w : World) (y : DV) (x : H) : Prop where
  k0 : On w 31 1 (.slice y.a0 (x.ks 0).length y.c0) (x.ks 0).length (u16s (x.ks 0))
  k1 : On w 31 1 (.slice y.a1 (x.ks 1).length y.c1) (x.ks 1).length (u16s (x.ks 1))
  us : On w 32 2 (.slice y.au x.us.length y.cu) x.us.length (lsC x.us)
section
variable {w w' : World} {c : Cfg} {x : H} {y : DV}
theorem Doc.lt (h : Doc w y x) : ∀ k, y.own k → k < w.heap.size := fun k hk => by
  rcases hk with hk | hk | hk
  · exact h.k0.lt k (own_to hk)
  · exact h.k1.lt k (own_to hk)
  · exact h.us.lt k (own_to hk)
theorem Doc.touch {S : Nat → Prop} (h : Doc w y x) (ht : Touch S w w') (hS : ∀ k, y.own k → ¬ S k) : Doc w' y x :=
  ⟨h.k0.touch ht (fun k hk => hS k (.inl (own_of hk))), h.k1.touch ht (fun k hk => hS k (.inr (.inl (own_of hk)))), h.us.touch ht (fun k hk => hS k (.inr (.inr (own_of hk))))⟩
theorem Doc.below (h : Doc w y x) (hb : Below w.heap.size w w') : Doc w' y x := ⟨h.k0.below hb h.k0.lt, h.k1.below hb h.k1.lt, h.us.below hb h.us.lt⟩
theorem Doc.drewN (h : Doc w y x) (n : Nat) : Doc (w.drewN n) y x := h.below (below_drewN (Below.refl _ w) n)
/-- A known input, in memory. -/
theorem Doc.at0 (h : Doc w y x) {f : Nat} (hf : f < (x.ks 0).length) : ∃ g, y.a0 = some ⟨g, 0, none⟩ ∧ g < w.heap.size ∧ w.cell? ⟨g, f, none⟩ = some (.int .u16 (((x.ks 0).getD f 0 : Nat) : Int)) := by
  rcases h.k0.form with ⟨_, h0, _⟩ | ⟨g, cap, hv, hnc, hcm, hown, hlt, hc, hf'⟩
  · omega
  · cases y; cases hv
    refine ⟨g, rfl, hlt, hc f _ ?_⟩
    unfold u16s
    rw [List.getElem?_map, List.getD_eq_getElem?_getD, List.getElem?_eq_getElem hf]
    rfl
theorem Doc.at1 (h : Doc w y x) {f : Nat} (hf : f < (x.ks 1).length) : ∃ g, y.a1 = some ⟨g, 0, none⟩ ∧ g < w.heap.size ∧ w.cell? ⟨g, f, none⟩ = some (.int .u16 (((x.ks 1).getD f 0 : Nat) : Int)) := by
  rcases h.k1.form with ⟨_, h0, _⟩ | ⟨g, cap, hv, hnc, hcm, hown, hlt, hc, hf'⟩
  · omega
  · cases y; cases hv
    refine ⟨g, rfl, hlt, hc f _ ?_⟩
    unfold u16s
    rw [List.getElem?_map, List.getD_eq_getElem?_getD, List.getElem?_eq_getElem hf]
    rfl
/-- A used pair, in memory. -/
theorem Doc.atU (h : Doc w y x) {f : Nat} (hf : f < x.us.length) : ∃ g, y.au = some ⟨g, 0, none⟩ ∧ g < w.heap.size ∧ w.cell? ⟨g, f * 2, none⟩ = some (.int .u16 (((col 0 x.us).getD f 0 : Nat) : Int)) ∧ w.cell? ⟨g, f * 2 + 1, none⟩ = some (.int .u16 (((col 1 x.us).getD f 0 : Nat) : Int)) := by
  rcases h.us.form with ⟨_, h0, _⟩ | ⟨g, cap, hv, hnc, hcm, hown, hlt, hc, hf'⟩
  · omega
  · cases y; cases hv
    have e : ∀ k, k < 2 → (lsC x.us)[f * 2 + k]? = some (.int .u16 (((col k x.us).getD f 0 : Nat) : Int)) := fun k hk => by
      unfold lsC col
      rw [flat_get (cs := fun x : Nat × Nat => (inC x).toList) (s := 2) (fun _ => rfl) x.us (List.getElem?_eq_getElem hf) hk]
      rw [List.getD_eq_getElem?_getD, List.getElem?_map, List.getElem?_eq_getElem hf]
      obtain rfl | rfl : k = 0 ∨ k = 1 := by omega
      · rfl
      · rfl
    exact ⟨g, rfl, hlt, hc _ _ (e 0 (by omega)), hc _ _ (e 1 (by omega))⟩
end
end Go.Proofs.YtckkpgopddnkiaaGreat.Rl
namespace Go.Proofs.YtckkpgopddnkiaaGreat.Rl
open Go.RowKit Go.Sort Go.Shelf Go.Proofs.YtckkpgopddnkiaaGreat.Gm Go.Proofs.YtckkpgopddnkiaaGreat.RingE Go.Proofs.YtckkpgopddnkiaaGreat.Inputq
set_option linter.all false

theorem dE_cells {W : World} {g : Nat} {c : Cfg} {y : DV} {x : H} (h : Blk W g 35 (dE c y x)) :
    W.cell? ⟨g, 0, none⟩ = some (.int .u32 (c.sd : Int)) ∧ W.cell? ⟨g, 1, none⟩ = some (.int .i64 (c.lo : Int)) ∧ W.cell? ⟨g, 2, none⟩ = some (.int .i64 c.ah) ∧ W.cell? ⟨g, 3, none⟩ = some (.slice y.a0 (x.ks 0).length y.c0) ∧ W.cell? ⟨g, 4, none⟩ = some (.slice y.a1 (x.ks 1).length y.c1) ∧ W.cell? ⟨g, 5, none⟩ = some (.int .u16 (lstH x 0 : Int)) ∧ W.cell? ⟨g, 6, none⟩ = some (.int .u16 (lstH x 1 : Int)) ∧ W.cell? ⟨g, 7, none⟩ = some (.slice y.au x.us.length y.cu) ∧ W.cell? ⟨g, 8, none⟩ = some (.int .i64 (Rl.wrH x)) ∧ W.cell? ⟨g, 9, none⟩ = some (.int .i64 (x.ro : Int)) ∧ W.cell? ⟨g, 10, none⟩ = some (.int .i64 (x.re : Int)) ∧ W.cell? ⟨g, 11, none⟩ = some (.int .i64 (x.wo : Int)) :=
  ⟨h.cell 0, h.cell 1, h.cell 2, h.cell 3, h.cell 4, h.cell 5, h.cell 6, h.cell 7, h.cell 8, h.cell 9, h.cell 10, h.cell 11⟩

set_option maxRecDepth 100000 in
set_option maxHeartbeats 4000000 in
theorem thought_any (w : World) (c : Cfg) (x : H) (y : DV) (h : Doc w y x) (i f : Nat) (hi : i < 2) (hf : f ≤ 100000) :
    Calls Tryz.prog 73 #[.agg (dE c y x), .int .i64 (i : Int), .int .i64 (f : Int)] w fun e w' => e = .returned (.int .u16 (th x i f : Int)) ∧ Below w.heap.size w w' := by
  obtain ⟨W1, hW1⟩ : ∃ W1, W1 = w.alloc (.cells (dE c y x) 35) := ⟨_, rfl⟩
  have hX : Blk W1 w.heap.size 35 (dE c y x) := by rw [hW1]; exact Blk.new _ _ _
  have hb : Below w.heap.size w W1 := by rw [hW1]; exact (Below.refl _ w).alloc (Nat.le_refl _) _
  have h1 := h.below hb
  obtain ⟨d0, d1, d2, d3, d4, d5, d6, d7, d8, d9, d10, d11⟩ := dE_cells hX
  have HB := Lib.hid hb
  have i0 : (0 : Int) ≤ (f : Int) := by omega
  unfold dE at hW1 ⊢
  by_cases hl : f < (x.ks i).length
  · have e : th x i f = (x.ks i).getD f 0 := if_pos hl
    rw [e]
    obtain rfl | rfl : i = 0 ∨ i = 1 := by omega
    · obtain ⟨g, hg, hgl, hc⟩ := h1.at0 hl
      have hl' : (f : Int) < ((x.ks 0).length : Int) := by omega
      rw [hg] at hW1 d3 ⊢
      clear h h1 hX hb hg e
      generalize (x.ks 0).getD f 0 = v at *
      generalize (x.ks 0).length = l0 at *
      generalize (x.ks 1).length = l1 at *
      generalize x.us.length = l2 at *
      go_enter Tryz.func73, Tryz.ntmps73
      go_upto_region 1 with fail
      rw [← hW1]
      clear hW1
      go_wp2_with fail
      go_ret
      exact ⟨rfl, HB.out⟩
    · obtain ⟨g, hg, hgl, hc⟩ := h1.at1 hl
      have hl' : (f : Int) < ((x.ks 1).length : Int) := by omega
      rw [hg] at hW1 d4 ⊢
      clear h h1 hX hb hg e
      generalize (x.ks 1).getD f 0 = v at *
      generalize (x.ks 0).length = l0 at *
      generalize (x.ks 1).length = l1 at *
      generalize x.us.length = l2 at *
      go_enter Tryz.func73, Tryz.ntmps73
      go_upto_region 1 with fail
      rw [← hW1]
      clear hW1
      go_wp2_with fail
      go_ret
      exact ⟨rfl, HB.out⟩
  · have e : th x i f = lstH x i := if_neg hl
    rw [e]
    obtain rfl | rfl : i = 0 ∨ i = 1 := by omega
    · have hl' : ¬ (f : Int) < ((x.ks 0).length : Int) := by omega
      clear h h1 hX hb e
      generalize (x.ks 0).length = l0 at *
      generalize (x.ks 1).length = l1 at *
      generalize x.us.length = l2 at *
      go_enter Tryz.func73, Tryz.ntmps73
      go_upto_region 1 with fail
      rw [← hW1]
      clear hW1
      go_wp2_with fail
      go_ret
      exact ⟨rfl, HB.out⟩
    · have hl' : ¬ (f : Int) < ((x.ks 1).length : Int) := by omega
      clear h h1 hX hb e
      generalize (x.ks 0).length = l0 at *
      generalize (x.ks 1).length = l1 at *
      generalize x.us.length = l2 at *
      go_enter Tryz.func73, Tryz.ntmps73
      go_upto_region 1 with fail
      rw [← hW1]
      clear hW1
      go_wp2_with fail
      go_ret
      exact ⟨rfl, HB.out⟩

set_option maxRecDepth 100000 in
set_option maxHeartbeats 4000000 in
theorem rconf_any (w : World) (c : Cfg) (x : H) (y : DV) :
    Calls Tryz.prog 13 #[.agg (dE c y x)] w fun e w' => e = .returned (.int .i64 (confH x)) ∧ Below w.heap.size w w' := by
  obtain ⟨W1, hW1⟩ : ∃ W1, W1 = w.alloc (.cells (dE c y x) 35) := ⟨_, rfl⟩
  have hX : Blk W1 w.heap.size 35 (dE c y x) := by rw [hW1]; exact Blk.new _ _ _
  have hb : Below w.heap.size w W1 := by rw [hW1]; exact (Below.refl _ w).alloc (Nat.le_refl _) _
  obtain ⟨d0, d1, d2, d3, d4, d5, d6, d7, d8, d9, d10, d11⟩ := dE_cells hX
  have HB := Lib.hid hb
  unfold dE at hW1 ⊢
  unfold confH
  clear hX hb
  generalize (x.ks 0).length = l0 at *
  generalize (x.ks 1).length = l1 at *
  generalize x.us.length = l2 at *
  by_cases hlt : (l1 : Int) < (l0 : Int)
  · rw [show minI (l0 : Int) (l1 : Int) = l1 from if_pos hlt]
    go_enter Tryz.func13, Tryz.ntmps13
    go_upto_region 1 with fail
    rw [← hW1]
    clear hW1
    go_wp2_with fail
    go_ret
    exact ⟨rfl, HB.out⟩
  · rw [show minI (l0 : Int) (l1 : Int) = l0 from if_neg hlt]
    go_enter Tryz.func13, Tryz.ntmps13
    go_upto_region 1 with fail
    rw [← hW1]
    clear hW1
    go_wp2_with fail
    go_ret
    exact ⟨rfl, HB.out⟩

set_option maxRecDepth 100000 in
set_option maxHeartbeats 4000000 in
theorem rsure_any (w : World) (c : Cfg) (x : H) (y : DV) (j : J c x) :
    Calls Tryz.prog 10 #[.agg (dE c y x)] w fun e w' => e = .returned (.int .i64 (sureH x)) ∧ Below w.heap.size w w' := by
  rw [sureH_wr j]
  obtain ⟨W1, hW1⟩ : ∃ W1, W1 = w.alloc (.cells (dE c y x) 35) := ⟨_, rfl⟩
  have hX : Blk W1 w.heap.size 35 (dE c y x) := by rw [hW1]; exact Blk.new _ _ _
  have hb : Below w.heap.size w W1 := by rw [hW1]; exact (Below.refl _ w).alloc (Nat.le_refl _) _
  obtain ⟨d0, d1, d2, d3, d4, d5, d6, d7, d8, d9, d10, d11⟩ := dE_cells hX
  have q0 := cell_regrown d0
  have q1 := cell_regrown d1
  have q2 := cell_regrown d2
  have q3 := cell_regrown d3
  have q4 := cell_regrown d4
  have q5 := cell_regrown d5
  have q6 := cell_regrown d6
  have q7 := cell_regrown d7
  have q8 := cell_regrown d8
  have q9 := cell_regrown d9
  have q10 := cell_regrown d10
  have q11 := cell_regrown d11
  have HB := Lib.hid hb
  have HD := Lib.hid (show ∀ W, Below W1.heap.size W1 W → W.cell? ⟨w.heap.size, 8, none⟩ = some (.int .i64 (Rl.wrH x)) from fun W hb => (dE_cells (hX.below hb hX.lt)).2.2.2.2.2.2.2.2.1)
  have cC := regrown W1 (fun W hb => rconf_any W c x y)
  clear d0 d1 d2 d3 d4 d5 d6 d7 d8 d9 d10 d11
  unfold dE at hW1 cC ⊢
  clear hX hb j
  generalize (x.ks 0).length = l0 at *
  generalize (x.ks 1).length = l1 at *
  generalize x.us.length = l2 at *
  generalize confH x = cf at *
  generalize Rl.wrH x = wr at *
  obtain ⟨m, hm⟩ : ∃ m, (if (l2 : Int) < cf then (l2 : Int) else cf) = m := ⟨_, rfl⟩
  have HM := Lib.hid (show minI cf (l2 : Int) = m from hm)
  rw [HM.out]
  by_cases h0 : 0 ≤ wr
  · rw [if_pos h0]
    obtain ⟨m2, hm2⟩ : ∃ m2, (if wr < m then wr else m) = m2 := ⟨_, rfl⟩
    have HM2 := Lib.hid (show minI m wr = m2 from hm2)
    rw [HM2.out]
    go_enter Tryz.func10, Tryz.ntmps10
    go_upto_region 1 with fail
    rw [← hW1]
    clear hW1
    refine wp_region_quiet_below (by kernel_rfl) (by kernel_rfl) ?_
    repeat (quiet_step (first | exact cC _ _))
    refine wpQuiet_nil ?_
    intro W2 hw'
    obtain ⟨⟨dq, osq⟩, hw''⟩ := hw'
    have hb2 : Below W1.heap.size W1 W2 := by rw [hw'']; exact below_regrown _ _ _
    have d8 := HD.out W2 hb2
    have HB2 := Lib.hid (HB.out.trans (hb2.mono HB.out.size))
    clear hw'' hb2 cC q0 q1 q2 q3 q4 q5 q6 q7 q8 q9 q10 q11
    go_wp2_with fail
    go_ret
    exact ⟨rfl, HB2.out⟩
  · rw [if_neg h0]
    go_enter Tryz.func10, Tryz.ntmps10
    go_upto_region 1 with fail
    rw [← hW1]
    clear hW1
    refine wp_region_quiet_below (by kernel_rfl) (by kernel_rfl) ?_
    repeat (quiet_step (first | exact cC _ _))
    refine wpQuiet_nil ?_
    intro W2 hw'
    obtain ⟨⟨dq, osq⟩, hw''⟩ := hw'
    have hb2 : Below W1.heap.size W1 W2 := by rw [hw'']; exact below_regrown _ _ _
    have d8 := HD.out W2 hb2
    have HB2 := Lib.hid (HB.out.trans (hb2.mono HB.out.size))
    clear hw'' hb2 cC q0 q1 q2 q3 q4 q5 q6 q7 q8 q9 q10 q11
    go_wp2_with fail
    go_ret
    exact ⟨rfl, HB2.out⟩
end Go.Proofs.YtckkpgopddnkiaaGreat.Rl
namespace Go.Proofs.YtckkpgopddnkiaaGreat.Gm
open Go.RowKit Go.Sort Go.Proofs.YtckkpgopddnkiaaGreat.Num
set_option linter.all false

theorem wpList_store_midw {ops : Array Oper} {rest : List Oper} {op : Oper} {a : Act} {w : World} {Q : Exit → Act → World → Prop} (hgd : op.guard = none) (ty : TypeId) (x y : Operand) (ho : op.op = .store ty x y)
    (b o : Nat) (cells : Array Value) (hx : a.eval x = .pointer (some ⟨b, o, none⟩)) (hy : a.eval y = .agg cells)
    (ht : w.there b o cells.size) (hi : (Tryz.prog.info? ty).map (·.size) = some cells.size) (h1 : cells.all (·.oneCell') = true) (w' : World) (hw : w.setCells b o cells.toList = w')
    (h : wpList Tryz.prog ops Q rest (a.put op.dst undef) w') : wpList Tryz.prog ops Q (op :: rest) a w :=
  wpList_store_mid hgd ty x y ho b o cells hx hy ht hi h1 (by rw [hw]; exact h)

set_option maxRecDepth 100000 in
set_option maxHeartbeats 4000000 in
theorem rnew_any (w : World) (seed : Int) (h0 : 0 ≤ seed) (h1 : seed < 4294967296) :
    Calls Tryz.prog 21 #[.int .u32 seed] w fun e w' => e = .returned (stV (newF seed)) ∧ Below w.heap.size w w' := by
  obtain ⟨W1, hW1⟩ : ∃ W1, W1 = (w.alloc (.cells Tryz.zeroCells47 47)).alloc (.cells Tryz.zeroCells47 47) := ⟨_, rfl⟩
  have hR : Blk W1 w.heap.size 47 Tryz.zeroCells47 := by rw [hW1]; exact (Blk.new _ _ _).alloc _
  have hS : SB W1 (w.heap.size + 1) 47 zF := by
    have : Blk W1 (w.heap.size + 1) 47 Tryz.zeroCells47 := by
      rw [hW1]
      have := Blk.new (w.alloc (.cells Tryz.zeroCells47 47)) 47 Tryz.zeroCells47
      simpa using this
    unfold SB
    rw [stA_zero]
    exact this
  have hB : Below w.heap.size w W1 := by rw [hW1]; exact ((Below.refl _ w).alloc (Nat.le_refl _) _).alloc (by simp) _
  have c1 : W1.cell? ⟨w.heap.size + 1, 1, none⟩ = some (.int .u32 0) := hS.seed
  have f1 := hS.fr 1
  have S2 := hS.set_ (j := 1) (by omega) seed
  rw [cv_seed] at S2
  have R2 := Blk.far hR (p := ⟨w.heap.size + 1, 1, none⟩) (by simp) (.int .u32 seed)
  have B2 := hB.setCell (p := ⟨w.heap.size + 1, 1, none⟩) (by simp) (.int .u32 seed)
  have pB0 := Lib.hid (fun W => rborn_any W 0 (by omega))
  have pB1 := Lib.hid (fun W => rborn_any W 1 (by omega))
  have HE := Lib.hid (show newF seed = setB (setB (put zF 1 seed) (2 + 0 * 7) (bornB 0)) (2 + 1 * 7) (bornB 1) from rfl)
  generalize bornB 0 = b0 at *
  generalize bornB 1 = b1 at *
  obtain ⟨v0, hv0', hw0⟩ : ∃ v0, v0 = (bodL b0).toArray ∧ bodV b0 = .agg v0 := ⟨_, rfl, rfl⟩
  obtain ⟨v1, hv1', hw1⟩ : ∃ v1, v1 = (bodL b1).toArray ∧ bodV b1 = .agg v1 := ⟨_, rfl, rfl⟩
  rw [hw0] at pB0
  rw [hw1] at pB1
  have Hv0 := Lib.hid hv0'
  have Hv1 := Lib.hid hv1'
  clear hv0' hv1' hw0 hw1
  have HS := Lib.hid S2
  have HR := Lib.hid R2
  have HB := Lib.hid B2
  clear hS hR hB S2 R2 B2
  go_enter Tryz.func21, Tryz.ntmps21
  go_upto_region 2 with fail
  rw [← hW1]
  clear hW1
  go_upto_region 3 with fail
  clear c1 f1
  generalize W1.setCell ⟨w.heap.size + 1, 1, none⟩ (.int .u32 seed) = W2 at *
  go_wp2_with fail
  refine (pB0.out _).mono ?_
  rintro e w3 ⟨rfl, b3⟩
  have S3 := HS.out.below b3 HS.out.lt
  have R3 := HR.out.below b3 HR.out.lt
  have B3 := HB.out.trans (b3.mono HB.out.size)
  go_wp2_with fail
  refine (pB1.out _).mono ?_
  rintro e w4 ⟨rfl, b4⟩
  have S4 := S3.below b4 S3.lt
  have R4 := R3.below b4 R3.lt
  have B4 := B3.trans (b4.mono B3.size)
  clear HS HR HB S3 R3 B3 b3 b4 pB0 pB1
  have hv0 := Hv0.out
  have hv1 := Hv1.out
  obtain ⟨w5, hw5⟩ : ∃ w5, w4.setCells (w.heap.size + 1) 2 (bodL b0) = w5 := ⟨_, rfl⟩
  obtain ⟨w6, hw6⟩ : ∃ w6, w5.setCells (w.heap.size + 1) 9 (bodL b1) = w6 := ⟨_, rfl⟩
  have ht : w4.there (w.heap.size + 1) 2 v0.size := by rw [hv0]; exact S4.there (o := 2) (n := 7) (by omega)
  have S5 : SB w5 (w.heap.size + 1) 47 (setB (put zF 1 seed) (2 + 0 * 7) b0) := by rw [← hw5]; exact S4.setBody (i := 0) (by omega) b0
  have T5 : Touch (fun k => k = w.heap.size + 1) w4 w5 := by rw [← hw5]; exact touch_setCells (S := fun k => k = w.heap.size + 1) (Touch.refl _ _) _ (.inl rfl) _ _
  have ht2 : w5.there (w.heap.size + 1) 9 v1.size := by rw [hv1]; exact S5.there (o := 9) (n := 7) (by omega)
  have S6 : SB w6 (w.heap.size + 1) 47 (setB (setB (put zF 1 seed) (2 + 0 * 7) b0) (2 + 1 * 7) b1) := by rw [← hw6]; exact S5.setBody (i := 1) (by omega) b1
  have T6 : Touch (fun k => k = w.heap.size + 1) w4 w6 := by rw [← hw6]; exact touch_setCells (S := fun k => k = w.heap.size + 1) T5 _ (.inl rfl) _ _
  have hw5' : RowKit.Hid (w4.setCells (w.heap.size + 1) 2 v0.toList = w5) := Lib.hid (by rw [hv0]; exact hw5)
  have hw6' : RowKit.Hid (w5.setCells (w.heap.size + 1) 9 v1.toList = w6) := Lib.hid (by rw [hv1]; exact hw6)
  have hi0 : (Tryz.prog.info? 40).map (·.size) = some v0.size := by rw [hv0]; exact infoB
  have hi1 : (Tryz.prog.info? 40).map (·.size) = some v1.size := by rw [hv1]; exact infoB
  have ho0 : v0.all (·.oneCell') = true := by rw [hv0]; exact bodL_one _
  have ho1 : v1.all (·.oneCell') = true := by rw [hv1]; exact bodL_one _
  have R6 := R4.touch T6 (by omega)
  have B6 := B4.trans (T6.below B4.size (fun k hk => by omega))
  rw [← HE.out] at S6
  clear S4 R4 B4 S5 T5 T6 hw5 hw6 hv0 hv1 Hv0 Hv1
  have Hi0 := Lib.hid hi0
  have Hi1 := Lib.hid hi1
  have Ho0 := Lib.hid ho0
  have Ho1 := Lib.hid ho1
  have Ht0 := Lib.hid ht
  have Ht1 := Lib.hid ht2
  clear hi0 hi1 ho0 ho1 ht ht2
  go_upto_region 4 with (first
    | (refine wpList_store_midw (w := w4) (by rfl) 40 _ _ (by rfl) (w.heap.size + 1) 2 v0 (by rfl) (by rfl) Ht0.out Hi0.out Ho0.out w5 hw5'.out ?_)
    | (refine wpList_store_midw (w := w5) (by rfl) 40 _ _ (by rfl) (w.heap.size + 1) 9 v1 (by rfl) (by rfl) Ht1.out Hi1.out Ho1.out w6 hw6'.out ?_)
    | fail)
  obtain ⟨C9, LC9⟩ := let_of (newF seed)
  have hS9 := LC9.blk S6
  have hzs : Tryz.zeroCells47.size = C9.size := by rw [LC9.size, ← stA_zero]; exact stA_size _
  have hif := LC9.info
  have hone := LC9.one
  have HC9 := Lib.hid LC9.eq
  clear LC9 S6
  go_wp2_with (first | (refine wpList_load_blk (by rfl) 47 _ (by rfl) (w.heap.size + 1) (by rfl) _ C9 _ hS9 Tryz.underlying47 (by rfl) hif ?_) | (refine wpList_store_blk (by rfl) 47 _ _ (by rfl) w.heap.size C9 (by rfl) (by rfl) _ _ R6 hif hzs hone ?_; intro W6 hd6 ht6))
  refine bodyPost_ret (v := .agg C9) (results_blk Tryz.results21 _ _ w.heap.size _ _ _ (by rfl) hd6 Tryz.underlying47 (by rfl) hif) rfl ⟨by rw [HC9.out]; rfl, ?_⟩
  exact B6.trans (ht6.below B6.size (fun k hk => by omega))
end Go.Proofs.YtckkpgopddnkiaaGreat.Gm
namespace Go.Proofs.YtckkpgopddnkiaaGreat.Gm
open Go.RowKit Go.Sort Go.Proofs.YtckkpgopddnkiaaGreat.Num
set_option linter.all false
attribute [local go_sem ↓] exec_st29

/-- 'b := ..' of a body: a block laid and stored whole. -/
theorem alloc_body (w : World) (L : List Value) (b : Body) (hL : L = bodL b) : ∃ W3, (storeCells ⟨w.heap.size, 0, none⟩ L).run Tryz.prog (w.alloc (.cells #[.int .i64 0, .int .i64 0, .int .i64 0, .int .i64 0, .int .i64 0, .int .i64 0, .int .i64 0] 40)) = .ok () W3 ∧ MB W3 w.heap.size b ∧ Below w.heap.size w W3 ∧ w.heap.size + 1 = W3.heap.size := by
  have hX : Blk (w.alloc (.cells #[.int .i64 0, .int .i64 0, .int .i64 0, .int .i64 0, .int .i64 0, .int .i64 0, .int .i64 0] 40)) w.heap.size 40 #[.int .i64 0, .int .i64 0, .int .i64 0, .int .i64 0, .int .i64 0, .int .i64 0, .int .i64 0] := Blk.new _ _ _
  subst hL
  have := run_storeCells_from (P := Tryz.prog) w.heap.size 40 (bodL b) 0 _ _ hX (by simp [bodL]) (fun v hv => (Array.all_eq_true_iff_forall_mem.1 (bodL_one b)) v (by simpa using hv))
  refine ⟨_, this, ?_, ?_, by simp⟩
  · exact hX.setRow _
  · exact ((Below.refl _ w).alloc (Nat.le_refl _) _).trans ((touch_setRow _ w.heap.size _).below (by simp) (fun k hk => by omega))

set_option maxRecDepth 100000 in
set_option maxHeartbeats 4000000 in
theorem rfire_any (w : World) (C : Array Value) (f : F) (i n : Nat) (LC : Let C f) (hi : i < 2) (hn : n < 65536) (hb : BodyOk (bod f (2 + i * 7))) :
    Calls Tryz.prog 77 #[.agg C, .int .i64 i, .int .u16 n] w fun e w' => ∃ C', Let C' (fireF f i n) ∧ e = .returned (.agg C') ∧ Below w.heap.size w w' := by
  obtain ⟨W1, hW1⟩ : ∃ W1, W1 = (w.alloc (.cells C 47)).alloc (.cells Tryz.zeroCells47 47) := ⟨_, rfl⟩
  have hS : SB W1 w.heap.size 47 f := by
    rw [hW1]
    exact (LC.sb (Blk.new w 47 C)).alloc _
  have hR : Blk W1 (w.heap.size + 1) 47 Tryz.zeroCells47 := by
    rw [hW1]
    have := Blk.new (w.alloc (.cells C 47)) 47 Tryz.zeroCells47
    simpa using this
  have hB : Below w.heap.size w W1 := by rw [hW1]; exact ((Below.refl _ w).alloc (Nat.le_refl _) _).alloc (by simp) _
  have hz : w.heap.size + 2 = W1.heap.size := by rw [hW1]; simp
  have pH := Lib.hid (fun W => has_any W n 16 hn (by omega) (by omega))
  have hc0 := hb.c0
  have hc1 := hb.c1
  have hy0 := hb.y0
  have hy1 := hb.y1
  have hfc : -1 ≤ (bod f (2 + i * 7)).facing ∧ (bod f (2 + i * 7)).facing ≤ 1 := by rcases hb.fc with e | e <;> omega
  have HF := Lib.hid (show fireF f i n = if 0 < (bod f (2 + i * 7)).cool then put f (2 + i * 7 + 5) ((bod f (2 + i * 7)).cool - 1)
    else if n / 16 % 2 = 1 ∧ freeK f < 8 then put (setS f (16 + freeK f * 6) (shotOf (bod f (2 + i * 7)) i)) (2 + i * 7 + 5) 15 else f from rfl)
  have hrB := hS.bodR hi
  have i1 : (0 : Int) ≤ (i : Int) := by omega
  have i2 : (i : Int) < 2 := by omega
  obtain ⟨b, hbb⟩ : ∃ b, bod f (2 + i * 7) = b := ⟨_, rfl⟩
  rw [hbb] at hc0 hc1 hy0 hy1 HF hfc hrB
  obtain ⟨Lb, hLb⟩ : ∃ Lb, Lb = bodL b := ⟨_, rfl⟩
  rw [← hLb] at hrB
  have hLs : Lb.length = 7 := by rw [hLb]; rfl
  have hiB : (Tryz.prog.info? 40).map (·.size) = some Lb.length := by rw [hLs]; exact infoB
  have HA := Lib.hid (fun W => alloc_body W Lb b hLb)
  have HS := Lib.hid hS
  have HR := Lib.hid hR
  have HB := Lib.hid hB
  have HI := Lib.hid hi
  have HZ := Lib.hid hz
  have HLC := Lib.hid LC
  clear hS hb hi hR hB hbb hLb hz LC
  go_enter Tryz.func77, Tryz.ntmps77
  go_upto_region 1 with fail
  rw [← hW1]
  clear hW1
  obtain ⟨W2, hrun, M2, b2, hz2⟩ := HA.out W1
  clear HA
  go_upto_region 2 with (refine wpList_load_mid (by rfl) 40 _ (by rfl) w.heap.size (2 + i * 7) (by rfl) Lb _ hrB Tryz.underlying40 (by rfl) hiB ?_)
  clear hrun hrB hiB hLs
  have hz := HZ.out
  have S2 := HS.out.below b2 HS.out.lt
  have R2 := HR.out.below b2 HR.out.lt
  have B2 := HB.out.trans (b2.mono (by omega))
  clear HS HR HB b2
  obtain ⟨gb, hgb⟩ : ∃ gb, gb = W1.heap.size := ⟨_, rfl⟩
  rw [← hgb] at M2 ⊢
  have hg1 : w.heap.size + 2 = gb := by omega
  clear hz hz2 hgb HZ
  have HS := Lib.hid S2
  have HR := Lib.hid R2
  have HB := Lib.hid B2
  have HM := Lib.hid M2
  have HG := Lib.hid hg1
  have c5 := M2.c5
  clear S2 R2 B2 M2 hg1
  by_cases h : 0 < b.cool
  · have HF2 := HF.out
    rw [if_pos h] at HF2
    have HF3 := Lib.hid HF2
    clear HF2 HF
    have S3 := HS.out.setInt (j := 2 + i * 7 + 5) (by have := HI.out; omega) (by omega) (by have := HI.out; omega) (b.cool - 1)
    have R3 := Blk.far HR.out (p := ⟨w.heap.size, 2 + i * 7 + 5, none⟩) (by simp) (.int .i64 (b.cool - 1))
    have B3 := HB.out.setCell (p := ⟨w.heap.size, 2 + i * 7 + 5, none⟩) (by simp) (.int .i64 (b.cool - 1))
    have f5 := HS.out.fr (2 + i * 7 + 5)
    have k5 := HS.out.int (j := 2 + i * 7 + 5) (by have := HI.out; omega) (by omega) (by have := HI.out; omega)
    have H3 := Lib.hid S3
    have HR3 := Lib.hid R3
    have HB3 := Lib.hid B3
    clear S3 R3 B3
    go_upto_region 4 with fail
    clear f5 k5 c5
    have S3 := H3.out
    rw [← HF3.out] at S3
    obtain ⟨C9, LC9⟩ := let_of (fireF f i n)
    have hS9 := LC9.blk S3
    have R9 := HR3.out
    have B9 := HB3.out
    have hzs : Tryz.zeroCells47.size = C9.size := by rw [LC9.size, ← stA_zero]; exact stA_size _
    have hif := LC9.info
    have hone := LC9.one
    have HC9 := Lib.hid LC9
    clear LC9
    go_wp2_with (first | (refine wpList_load_blk (by rfl) 47 _ (by rfl) w.heap.size (by rfl) _ C9 _ hS9 Tryz.underlying47 (by rfl) hif ?_) | (refine wpList_store_blk (by rfl) 47 _ _ (by rfl) (w.heap.size + 1) C9 (by rfl) (by rfl) _ _ R9 hif hzs hone ?_; intro W6 hd6 ht6) | fail)
    refine bodyPost_ret (v := .agg C9) (results_blk Tryz.results77 _ _ (w.heap.size + 1) _ _ _ (by rfl) hd6 Tryz.underlying47 (by rfl) hif) rfl ⟨C9, HC9.out, rfl, ?_⟩
    exact B9.trans (ht6.below B9.size (fun k hk => by omega))
  · have HF2 := HF.out
    rw [if_neg h] at HF2
    have HF3 := Lib.hid HF2
    clear HF2 HF
    go_upto_region 6 with fail
    go_loopw [8] (fun kv wr => ∃ k : Nat, k ≤ 8 ∧ kv = .int .i64 k ∧ (∀ j, j < k → f (16 + j * 6) ≠ 0) ∧ wr = W2) (fun kv _ => 8 - (intOf kv).toNat)
    case atStart => exact ⟨0, by omega, rfl, fun j hj => by omega, by first | trivial | rfl⟩
    case round =>
      obtain ⟨k, hk, rfl, hall, rfl⟩ := hrel
      by_cases hlt : k < 8
      · have k1 : (0 : Int) ≤ (k : Int) := by omega
        have k2 : (k : Int) < 8 := by omega
        have con := HS.out.on hlt
        by_cases hon : f (16 + k * 6) = 0
        · rw [onB_no hon] at con
          have hfree : freeK f = k := freeK_eq f k hk hall (fun _ => hon)
          by_cases hbt : n / 16 % 2 = 1
          · have e16 : decide (n / 16 % 2 = 1) = true := by rw [hbt]; rfl
            rw [e16] at pH
            have HF4 := HF3.out
            rw [hfree, if_pos ⟨hbt, hlt⟩] at HF4
            have HF5 := Lib.hid HF4
            have HK := Lib.hid hlt
            have hk8 : ((k : Int) == 8) = false := by simp; omega
            clear HF4 HF3 hfree hon hall hlt e16 hbt
            go_upto_region 8 with fail
            go_wp2_with fail
            refine (pH.out _).mono ?_
            rintro e w2 ⟨rfl, rfl⟩
            clear hk8 con
            have HSH := Lib.hid (show shotOf b i = ⟨1, b.x, hold (b.y + 65536), clampV b.facing (-1) 1 * 393216, i, 60⟩ from rfl)
            have hcl := clampV_in b.facing (a := -1) (b := 1) (by omega)
            have hcf : clampV b.facing (-1) 1 = b.facing := by unfold clampV; omega
            have m1 : (if b.facing < -1 then -1 else b.facing) = b.facing := by split <;> omega
            have m2 : (if 1 < b.facing then 1 else b.facing) = b.facing := by split <;> omega
            have c6 := HM.out.c6
            rw [hcf] at HSH
            clear hcl hcf c5
            go_upto_region 11 with fail
            clear c6 m1 m2
            have q1 : IntKind.i64.wrap (b.facing * 6) = b.facing * 6 := IntWalk.i64_in _ (by omega)
            have q2 : IntKind.i64.wrap (b.facing * 6 * 65536) = b.facing * 6 * 65536 := IntWalk.i64_in _ (by omega)
            have c0 := HM.out.c0
            have c1 := HM.out.c1
            have pA := Lib.hid (fun W => Num.add_any W b.y 65536 (by omega) (by omega) (by omega) (by omega))
            generalize hold (b.y + 65536) = yv at *
            have hs6 : ∀ W, RowKit.Below wr.heap.size wr W → ∃ W', storeR Tryz.prog 43 (.pointer (some ⟨w.heap.size, 16 + k * 6, none⟩)) (.agg #[.bool true, .int .i64 b.x, .int .i64 yv, .int .i64 (b.facing * 6 * 65536), .int .i64 i, .int .i64 60]) W = .ok .skip W' ∧ SB W' w.heap.size 47 (setS f (16 + k * 6) (shotOf b i)) ∧ MB W' gb b ∧ Blk W' (w.heap.size + 1) 47 Tryz.zeroCells47 ∧ RowKit.Below w.heap.size w W' := fun W hW => by
              have SW := HS.out.below hW HS.out.lt
              have T : Touch (fun k => k = w.heap.size) W (W.setCells w.heap.size (16 + k * 6) (shoL (shotOf b i))) := touch_setCells (S := fun k => k = w.heap.size) (Touch.refl _ _) _ (.inl rfl) _ _
              have BW := HB.out.trans (hW.mono HB.out.size)
              have hgg := HG.out
              refine ⟨W.setCells w.heap.size (16 + k * 6) (shoL (shotOf b i)), storeR_mid (SW.there (by have := HK.out; simp; omega)) infoS (by simp [Value.oneCell']) ?_, SW.setShot HK.out _, Blk.touch (HM.out.below hW (Blk.lt HM.out)) T (by omega), (HR.out.below hW HR.out.lt).touch T (by omega), BW.trans (T.below BW.size (fun k hk => by omega))⟩
              rw [HSH.out, show b.facing * 393216 = b.facing * 6 * 65536 by omega]
              rfl
            have HT := Lib.hid hs6
            clear hs6
            go_region_held3 (fun w' => w'.cell? ⟨gb, 0, none⟩ = some (.int .i64 b.x) ∧ w'.cell? ⟨gb, 1, none⟩ = some (.int .i64 b.y)) (first | exact ⟨c0, c1⟩ | exact ⟨k0, k1⟩ | exact ⟨l0, l1⟩)
              (first
                | (go_at_call 90; refine (pA.out _).mono ?_; rintro e w3 ⟨rfl, b3⟩; have b3' : RowKit.Below wr.heap.size wr w3 := ⟨b3.os, b3.tape, b3.output, b3.size, b3.block⟩; obtain ⟨w4, hst, S4, M4, R4, B4⟩ := HT.out _ b3'; have l0 := M4.c0; have l1 := M4.c1; have M3 := HM.out.below b3' (Blk.lt HM.out); have k0 := M3.c0; have k1 := M3.c1))
            have hi3 := HI.out
            have z5 := S4.int (j := 2 + i * 7 + 5) (by omega) (by omega) (by omega)
            have f5 := S4.fr (2 + i * 7 + 5)
            have S5 := S4.setInt (j := 2 + i * 7 + 5) (by omega) (by omega) (by omega) 15
            have R5 := Blk.far R4 (p := ⟨w.heap.size, 2 + i * 7 + 5, none⟩) (by simp) (.int .i64 15)
            have B5 := B4.setCell (p := ⟨w.heap.size, 2 + i * 7 + 5, none⟩) (by simp) (.int .i64 15)
            rw [← HF5.out] at S5
            have H5 := Lib.hid S5
            have HR5 := Lib.hid R5
            have HB5 := Lib.hid B5
            clear hst S4 M4 R4 B4 l0 l1 M3 k0 k1 HT pA c0 c1 q1 q2 b3 b3' hi3 S5 R5 B5 pH
            go_upto_region 13 with fail
            clear z5 f5
            obtain ⟨C9, LC9⟩ := let_of (fireF f i n)
            have hS9 := LC9.blk H5.out
            have R9 := HR5.out
            have B9 := HB5.out
            have hzs : Tryz.zeroCells47.size = C9.size := by rw [LC9.size, ← stA_zero]; exact stA_size _
            have hif := LC9.info
            have hone := LC9.one
            have HC9 := Lib.hid LC9
            clear LC9
            go_wp2_with (first | (refine wpList_load_blk (by rfl) 47 _ (by rfl) w.heap.size (by rfl) _ C9 _ hS9 Tryz.underlying47 (by rfl) hif ?_) | (refine wpList_store_blk (by rfl) 47 _ _ (by rfl) (w.heap.size + 1) C9 (by rfl) (by rfl) _ _ R9 hif hzs hone ?_; intro W6 hd6 ht6) | fail)
            refine bodyPost_ret (v := .agg C9) (results_blk Tryz.results77 _ _ (w.heap.size + 1) _ _ _ (by rfl) hd6 Tryz.underlying47 (by rfl) hif) rfl ⟨C9, HC9.out, rfl, ?_⟩
            exact B9.trans (ht6.below B9.size (fun k hk => by omega))
          · have e16 : decide (n / 16 % 2 = 1) = false := by simpa using hbt
            rw [e16] at pH
            have HF4 := HF3.out
            rw [if_neg (fun h => hbt h.1)] at HF4
            have HF5 := Lib.hid HF4
            clear HF4 HF3 hfree hon hall e16 hbt
            go_upto_region 8 with fail
            go_wp2_with fail
            refine (pH.out _).mono ?_
            rintro e w2 ⟨rfl, rfl⟩
            have S9 := HS.out
            rw [← HF5.out] at S9
            go_upto_region 9 with fail
            obtain ⟨C9, LC9⟩ := let_of (fireF f i n)
            have hS9 := LC9.blk S9
            have R9 := HR.out
            have B9 := HB.out
            have hzs : Tryz.zeroCells47.size = C9.size := by rw [LC9.size, ← stA_zero]; exact stA_size _
            have hif := LC9.info
            have hone := LC9.one
            have HC9 := Lib.hid LC9
            clear LC9
            go_wp2_with (first | (refine wpList_load_blk (by rfl) 47 _ (by rfl) w.heap.size (by rfl) _ C9 _ hS9 Tryz.underlying47 (by rfl) hif ?_) | (refine wpList_store_blk (by rfl) 47 _ _ (by rfl) (w.heap.size + 1) C9 (by rfl) (by rfl) _ _ R9 hif hzs hone ?_; intro W6 hd6 ht6) | fail)
            refine bodyPost_ret (v := .agg C9) (results_blk Tryz.results77 _ _ (w.heap.size + 1) _ _ _ (by rfl) hd6 Tryz.underlying47 (by rfl) hif) rfl ⟨C9, HC9.out, rfl, ?_⟩
            exact B9.trans (ht6.below B9.size (fun k hk => by omega))
        · rw [onB_yes hon] at con
          have HALL := Lib.hid (show ∀ j, j < k + 1 → f (16 + j * 6) ≠ 0 from fun j hj => by
            by_cases e : j = k
            · subst e; exact hon
            · exact hall j (by omega))
          clear hall hon
          go_wp2_with fail
          go_roundw
          case rel => exact ⟨k + 1, by omega, by go_num, HALL.out, by first | trivial | rfl⟩
          case measure => simp [intOf]; omega
      · obtain rfl : k = 8 := by omega
        have HF4 := HF3.out
        rw [if_neg (fun h => by have := freeK_free f h.2; exact hall _ h.2 this)] at HF4
        have HF5 := Lib.hid HF4
        clear HF4 hall HF3
        have S9 := HS.out
        rw [← HF5.out] at S9
        by_cases hbt : n / 16 % 2 = 1
        · have e16 : decide (n / 16 % 2 = 1) = true := by rw [hbt]; rfl
          rw [e16] at pH
          clear e16 hbt hlt
          go_upto_region 8 with fail
          go_wp2_with fail
          refine (pH.out _).mono ?_
          rintro e w2 ⟨rfl, rfl⟩
          go_upto_region 9 with fail
          obtain ⟨C9, LC9⟩ := let_of (fireF f i n)
          have hS9 := LC9.blk S9
          have R9 := HR.out
          have B9 := HB.out
          have hzs : Tryz.zeroCells47.size = C9.size := by rw [LC9.size, ← stA_zero]; exact stA_size _
          have hif := LC9.info
          have hone := LC9.one
          have HC9 := Lib.hid LC9
          clear LC9
          go_wp2_with (first | (refine wpList_load_blk (by rfl) 47 _ (by rfl) w.heap.size (by rfl) _ C9 _ hS9 Tryz.underlying47 (by rfl) hif ?_) | (refine wpList_store_blk (by rfl) 47 _ _ (by rfl) (w.heap.size + 1) C9 (by rfl) (by rfl) _ _ R9 hif hzs hone ?_; intro W6 hd6 ht6) | fail)
          refine bodyPost_ret (v := .agg C9) (results_blk Tryz.results77 _ _ (w.heap.size + 1) _ _ _ (by rfl) hd6 Tryz.underlying47 (by rfl) hif) rfl ⟨C9, HC9.out, rfl, ?_⟩
          exact B9.trans (ht6.below B9.size (fun k hk => by omega))
        · have e16 : decide (n / 16 % 2 = 1) = false := by simpa using hbt
          rw [e16] at pH
          clear e16 hbt hlt
          go_upto_region 8 with fail
          go_wp2_with fail
          refine (pH.out _).mono ?_
          rintro e w2 ⟨rfl, rfl⟩
          go_upto_region 9 with fail
          obtain ⟨C9, LC9⟩ := let_of (fireF f i n)
          have hS9 := LC9.blk S9
          have R9 := HR.out
          have B9 := HB.out
          have hzs : Tryz.zeroCells47.size = C9.size := by rw [LC9.size, ← stA_zero]; exact stA_size _
          have hif := LC9.info
          have hone := LC9.one
          have HC9 := Lib.hid LC9
          clear LC9
          go_wp2_with (first | (refine wpList_load_blk (by rfl) 47 _ (by rfl) w.heap.size (by rfl) _ C9 _ hS9 Tryz.underlying47 (by rfl) hif ?_) | (refine wpList_store_blk (by rfl) 47 _ _ (by rfl) (w.heap.size + 1) C9 (by rfl) (by rfl) _ _ R9 hif hzs hone ?_; intro W6 hd6 ht6) | fail)
          refine bodyPost_ret (v := .agg C9) (results_blk Tryz.results77 _ _ (w.heap.size + 1) _ _ _ (by rfl) hd6 Tryz.underlying47 (by rfl) hif) rfl ⟨C9, HC9.out, rfl, ?_⟩
          exact B9.trans (ht6.below B9.size (fun k hk => by omega))
end Go.Proofs.YtckkpgopddnkiaaGreat.Gm
