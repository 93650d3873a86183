/-
  Package saved: the iterator behind Sums: it ranges over the ring's Back and hands on frames and sums. Conditions: the states lie in blocks that a round keeps, and a round keeps what was laid since the iterator began.
-/
import Derived.Test.YtblnfkhaicjeaaaSavCN
import Derived.Test.YtblnfkhaicjeaaaRoutU
namespace Go.Proofs.Ytblnfkhaicjeaaa.Sav
open Go.RowKit Go.Sort Go.Shelf Go.Proofs.Ytblnfkhaicjeaaa.Gm Go.Proofs.Ytblnfkhaicjeaaa.RingE
set_option linter.all false
attribute [local go_sem] Oper.semAt_some

def hS (x : Int × NT) : Int × Int := (x.1, x.2.2)
def encsS (y : Int × Int) : Array Value := #[.int .i64 y.1, .int .u32 y.2]
def sumF (first : Int) (l : List NT) (j : Nat) : Int × Int := hS (backF first l j)
theorem upto_map (first : Int) (l : List NT) (k : Nat) : (upto (backF first l) k).map hS = upto (sumF first l) k := by
  simp [upto, sumF]

/-- What a round of the outer loop keeps: the blocks of K, and all that was laid from B on. -/
def KeepS (K : Nat → Prop) (B : Nat) (A C : World) : Prop := KeepB K A C ∧ A.heap.size ≤ C.heap.size ∧ ∀ k, B ≤ k → k < A.heap.size → C.heap[k]? = A.heap[k]?
theorem keepS_t {K : Nat → Prop} {B : Nat} {A C D : World} (h : KeepS K B A C) (h' : KeepS K B C D) : KeepS K B A D :=
  ⟨keepB_t h.1 h'.1, Nat.le_trans h.2.1 h'.2.1, fun k hk hl => (h'.2.2 k hk (Nat.lt_of_lt_of_le hl h.2.1)).trans (h.2.2 k hk hl)⟩
theorem keepS_put {K : Nat → Prop} {B m : Nat} (hK : ∀ k, K k → k < m) (hm : m < B) (W : World) (o : Obj) : KeepS K B W (W.putObj m o) :=
  ⟨fun k hk => World.putObj_heap_other (by have := hK k hk; omega), by simp, fun k hk _ => World.putObj_heap_other (by omega)⟩
theorem KeepS.from {K : Nat → Prop} {B m : Nat} {A C : World} (h : KeepS K B A C) (hm : B ≤ m) : KeepsFrom m A C :=
  ⟨h.2.1, fun k o hk ho _ => (h.2.2 k (Nat.le_trans hm hk) (Array.getElem?_eq_some_iff.1 ho).1).trans ho⟩
theorem KeepS.keepB {K : Nat → Prop} {B m : Nat} {A C : World} (h : KeepS K B A C) (hm : m ≤ A.heap.size) : KeepB (fun k => K k ∨ (B ≤ k ∧ k < m)) A C :=
  fun k hk => hk.elim (h.1 k) (fun e => h.2.2 k e.1 (Nat.lt_of_lt_of_le e.2 hm))
theorem ownFrom_keepB {β : Type} {B : Nat} {K : Nat → Prop} {w : World} (hK : ∀ k, K k → k < B) (hw : B ≤ w.heap.size) : OwnFrom B (fun (_ : β) W => w.heap.size ≤ W.heap.size ∧ KeepB K w W) := fun _ X Y row hs hg hr =>
  ⟨Nat.le_trans hs.1 hg.size, fun k hk => (hg.block k (by have := hK k hk; omega) (fun e => by have := (hr k e.symm).1; have := hK k hk; omega)).trans (hs.2 k hk)⟩
theorem blk_own {W W' : World} {row : Option Nat} {b : Nat} {t : TypeId} {C : Array Value} (h : Blk W b t C) (hg : W.grownBy W' row) (hr : ∀ r, row = some r → ∃ o : Obj, W.heap[r]? = some o ∧ o.isCells = false) : Blk W' b t C :=
  (grownBy_keeps_cells hg hr h rfl).trans h
theorem below_keepB {K : Nat → Prop} {A C : World} (h : Below A.heap.size A C) (hK : ∀ k, K k → k < A.heap.size) : KeepB K A C := fun k hk => h.block k (hK k hk)
theorem below_from {m : Nat} {A C : World} (h : Below A.heap.size A C) : KeepsFrom m A C := ⟨h.size, fun k o _ ho _ => (h.block k (Array.getElem?_eq_some_iff.1 ho).1).trans ho⟩

set_option maxRecDepth 100000 in
set_option maxHeartbeats 4000000 in
theorem sums1_in (lo Bx g r : Nat) (K : Nat → Prop) (room first : Int) (sv : Value) (l : List NT) (J Jx : List (Int × Int) → World → Prop) (W : World)
    (hY : ∀ pre x W1, J pre W1 → pre.length < l.length → YieldAt Fence.wide 7 Try.prog lo (encsS x) W1 fun e W' =>
      (e = .returned (.bool true) ∧ J (pre ++ [x]) W' ∧ KeepS K W.heap.size W1 W') ∨ (e = .returned (.bool false) ∧ Jx (pre ++ [x]) W' ∧ KeepS K W.heap.size W1 W'))
    (hK : ∀ k, K k → k < W.heap.size) (hc : W.cell? ⟨Bx, 0, none⟩ = some (.pointer (some ⟨g, 0, none⟩))) (hBx : K Bx) (hA : SA W g r room first sv l) (hfp : ∀ k, fp r sv k → K k) (hg : K g)
    (h0 : 0 ≤ first) (h1 : first + l.length ≤ 4611686018427387904) (hJ : OwnFrom W.heap.size J) (hJx : OwnFrom W.heap.size Jx) (hJ0 : J [] W) :
    CallsIn Fence.wide 8 Try.prog 138 #[.func (.yield lo) #[] #[], .pointer (some ⟨Bx, 0, none⟩)] W fun e W' => (∃ v, e = .returned v) ∧
      ((∃ ys, ys = upto (sumF first l) l.length ∧ J ys W') ∨ (∃ pre, (∃ k, k ≤ l.length ∧ pre = upto (sumF first l) k) ∧ Jx pre W')) := by
  refine (callsIn_wide (n := 8)).2 (calls_of_wp_marks 8 Try.func138 rfl ?_)
  simp only [Try.ntmps138, List.size_toArray, List.length_cons, List.length_nil, Nat.reduceAdd, Nat.reduceSub, Array.replicate_succ, Array.replicate_zero, List.push_toArray, List.append_toArray, List.nil_append, List.cons_append]
  have hz : Bx < W.heap.size := hK _ hBx
  obtain ⟨V, hV⟩ : ∃ V : World, V = W.alloc (.cells #[.func (.yield lo) #[] #[]] 173) := ⟨_, rfl⟩
  have hb1 : Below W.heap.size W V := by rw [hV]; exact (Below.refl _ W).alloc (Nat.le_refl _) _
  have hzV : V.heap.size = W.heap.size + 1 := by rw [hV]; simp
  have hyb : Blk V W.heap.size 173 #[.func (.yield lo) #[] #[]] := by rw [hV]; exact Blk.new _ _ _
  have hA1 := hA.below hb1
  have c0 := hA1.c0
  have c1 : V.cell? ⟨Bx, 0, none⟩ = some (.pointer (some ⟨g, 0, none⟩)) := (hb1.cell (p := ⟨Bx, 0, none⟩) hz).trans hc
  have p := Lib.hid (back_any V r)
  have HJ : Hid (J [] V) := Lib.hid (by rw [hV]; exact hJ.alloc _ hJ0)
  clear hJ0
  go_upto_region 1 with fail
  rw [← hV]
  clear hV
  go_wp2_with (first | (refine p.out.mono ?_; rintro e w' ⟨rfl, rfl⟩) | fail)
  refine (wpIn_wide (n := 8)).1 ?_
  obtain ⟨V2, hV2⟩ : ∃ V2 : World, V2 = V.alloc (Obj.cells #[Value.pointer (some { block := r, off := 0 })] 151) := ⟨_, rfl⟩
  rw [← hV2]
  have hz2 : V2.heap.size = W.heap.size + 2 := by rw [hV2]; simp [hzV]
  have hbk : Blk V2 (W.heap.size + 1) 151 #[Value.pointer (some { block := r, off := 0 })] := by
    rw [hV2, ← hzV]; exact Blk.new _ _ _
  have hb2 : Below V.heap.size V V2 := by rw [hV2]; exact (Below.refl _ V).alloc (Nat.le_refl _) _
  have hA2 := hA1.below hb2
  have hyb2 : Blk V2 W.heap.size 173 #[.func (.yield lo) #[] #[]] := Blk.below hyb hb2 (by omega)
  have HJ2 : J [] V2 := by rw [hV2]; exact hJ.alloc _ HJ.out
  obtain ⟨Kin, hKin⟩ : ∃ Kin : Nat → Prop, Kin = fun k => K k ∨ (W.heap.size ≤ k ∧ k < V2.heap.size) := ⟨_, rfl⟩
  have kin : ∀ k, Kin k → k < V2.heap.size := fun k hk => by rw [hKin] at hk; exact hk.elim (fun h => by have := hK k h; omega) (fun h => h.2)
  have kinK : ∀ k, K k → Kin k := fun k hk => by rw [hKin]; exact .inl hk
  have kin0 : Kin W.heap.size := by rw [hKin]; exact .inr ⟨Nat.le_refl _, by omega⟩
  have kin1 : Kin (W.heap.size + 1) := by rw [hKin]; exact .inr ⟨by omega, by omega⟩
  have hup : ∀ {J : List (Int × Int) → World → Prop}, OwnFrom W.heap.size J → OwnFrom V2.heap.size (fun (pre : List (Int × NT)) V => J (pre.map hS) V) := fun h s A B row hs hg hr => h _ A B row hs hg (fun r e => ⟨by have := (hr r e).1; omega, (hr r e).2⟩)
  have hKS : ∀ A C : World, V2.heap.size ≤ A.heap.size → KeepS K W.heap.size A C → KeepsFrom V2.heap.size A C ∧ KeepB Kin A C := fun A C hA h => ⟨h.from (by omega), by rw [hKin]; exact h.keepB hA⟩
  clear hV2 hb1 hzV hyb hA1 c0 c1 p HJ hb2
  refine' wpIn_rangeFunc_ownH (F := Fence.wide) (n := 8) rfl (by omega) (gf := 125) (lb := #[.pointer (some ⟨W.heap.size + 1, 0, none⟩)]) rfl trivial (enters_of Try.func125 (by kernel_rfl) rfl)
    (back_stops 7 (by omega) (W.heap.size + 1) r Kin room first sv l V2 kin (hbk.cell 0) hA2.2 (fun k hk => kinK k (hfp k hk)) kin1 h0 h1)
    keepB_t (keepB_b (m := V2.heap.size) kin) (Below.refl _ _) (fun _ => rfl)
    (fun pre V => J (pre.map hS) V ∧ V2.heap.size ≤ V.heap.size ∧ KeepB Kin V2 V)
    (fun c pre V => c = .ret ∧ Jx (pre.map hS) V) ((hup hJ).and (ownFrom_keepB kin (Nat.le_refl _))) (fun c s A B row hs hg hr => ⟨hs.1, hup hJx s A B row hs.2 hg hr⟩) ⟨HJ2, Nat.le_refl _, keepB_refl _⟩
    (fun x a' V => ∃ b C, V2.heap.size ≤ b ∧ EL C x.2 ∧ Blk V b 149 C ∧ a' = { defers := [], tmps := #[Value.func (Fn.yield lo) #[] #[], Value.pointer (some { block := Bx, off := 0 }),
          Value.pointer (some { block := W.heap.size, off := 0 }), .int .i64 x.1, .pointer (some ⟨b, 0, none⟩),
          Value.pointer (some { block := g, off := 0 }), Value.pointer (some { block := g, off := 0 }),
          Value.pointer (some { block := g, off := 0 }), Value.pointer (some { block := r, off := 0 }),
          Value.func (Fn.func 125) #[] #[Value.pointer (some { block := W.heap.size + 1, off := 0 })], .int .i64 x.1, .agg C,
          undef, undef, undef, undef, undef, undef] })
    (fun x a' s A B row hs hg hr => by
      obtain ⟨b, C, h1, h2, h3, h4⟩ := hs
      exact ⟨b, C, h1, h2, blk_own h3 hg (fun r e => (hr r e).2), h4⟩) ?assign ?body ?done ?stop
  case assign =>
    rintro lo2 pre ⟨xn, xv⟩ U Kk ⟨uj, uz, uk⟩ hKk
    dsimp only [encs]
    obtain ⟨C, LC⟩ := el_of xv
    rw [show (cs xv).toArray = C from Array.ext' LC.eq.symm]
    obtain ⟨U3, hrun, hB3, hb3, hz3⟩ := alloc_storeE U LC
    have hes := LC.size
    have hz67' := hz67
    have HL := Lib.hid LC
    clear LC
    have hfin := hKk _ U3 (below_from hb3) (below_keepB hb3 (fun k hk => Nat.lt_of_lt_of_le (kin k hk) uz)) ⟨(hup hJ) pre U U3 none uj ⟨hb3.os, hb3.tape, hb3.output, hb3.size, fun k hk _ => hb3.block k hk⟩ (fun r e => by cases e), Nat.le_trans uz hb3.size, keepB_t uk (below_keepB hb3 (fun k hk => Nat.lt_of_lt_of_le (kin k hk) uz))⟩ ⟨_, C, uz, HL.out, hB3, rfl⟩
    gi_wp2
    exact hfin
  case stop =>
    rintro D c pre U hD ⟨k, hk, rfl⟩ ⟨rfl, ux⟩ hdef
    rw [upto_map] at ux
    refine wpIn_wide.2 ?_
    go_wp2
    refine ⟨by simp, .inl ⟨_, _, rfl, run_takeDeferred hdef, ?_⟩⟩
    exact ⟨_, results_none rfl _ _ _, ⟨_, rfl⟩, .inr ⟨_, ⟨k, hk, rfl⟩, hJx.putObj _ ux (by omega) hdef rfl⟩⟩
  case body =>
    rintro lo2 pre ⟨xn, xv⟩ a' U hlo hrec ⟨uj, uz, uk⟩ ⟨b, C, hbz, LC, hb, rfl⟩ hlt
    have q0 : U.cell? ⟨W.heap.size, 0, none⟩ = some (.func (.yield lo) #[] #[]) := cell_keep (hyb2.cell 0) uk kin0
    have q1 : U.cell? ⟨b, 66, none⟩ = some (.int .u32 xv.2) := (hb.cell 66).trans (el_sum LC)
    have hyw := yield_wide (m' := 5) (hY (pre.map hS) (hS (xn, xv)) U uj (by simpa using hlt))
    obtain ⟨fn, tmps, assign, body, hy, hR⟩ := hyw
    dsimp only [encsS, hS] at hy
    have hR2 : Hid (RoundIn (Fence.wide.inRound lo2) 5 Try.prog lo fn tmps assign body U (fun e W' => ∃ bb, e = .returned (.bool bb) ∧ KeepS K W.heap.size U W' ∧ (if bb = true then J ((pre ++ [(xn, xv)]).map hS) W' else Jx ((pre ++ [(xn, xv)]).map hS) W'))) :=
      Lib.hid (RoundIn.mono hR (fun e W' h => by
        rcases h with ⟨rfl, h1, h2⟩ | ⟨rfl, h1, h2⟩
        · exact ⟨true, rfl, h2, by simpa using h1⟩
        · exact ⟨false, rfl, h2, by simpa using h1⟩))
    have HKS := Lib.hid (fun C => hKS U C uz)
    have HUK := Lib.hid uk
    clear hR hY hb LC hKS uk hz2
    gi_wp2_with (first | (refine hR2.out.mono ?_; rintro e W3 ⟨bb, rfl, hks, hp⟩) | fail)
    · cases bb
      · have := HKS.out _ hks
        exact ⟨this.1, rfl, by simpa using hp⟩
      · rename_i hx; simp at hx
    · cases bb
      · rename_i hx; simp at hx
      · have := HKS.out _ hks
        exact ⟨this.1, this.2, by simpa using hp, Nat.le_trans uz hks.2.1, keepB_t HUK.out this.2⟩
  case done =>
    rintro D ys U hD rfl ⟨uj, uz, uk⟩ hdef
    rw [upto_map] at uj
    go_wp2
    refine ⟨by simp, .inl ⟨_, _, rfl, run_takeDeferred hdef, ?_⟩⟩
    exact ⟨_, results_none rfl _ _ _, ⟨_, rfl⟩, .inl ⟨_, rfl, hJ.putObj _ uj (by omega) hdef rfl⟩⟩
end Go.Proofs.Ytblnfkhaicjeaaa.Sav
