/-
  Texts joined: RdK, RdL, RdM, RdN, Open, OpenI2. No condition.
-/
import Derived.Test.YtckkpgopddnkiaaGreatBRp19
import Derived.Deep.Cut
import Derived.Deep.CutBlock
import Derived.Deep.RegionHeld3
import Derived.ProofKit
import Derived.OpenShut
import Derived.Deep.Strs
import Derived.Deep.Slices
import Derived.Deep.Fields
import Derived.ChangeSame
namespace Go.Proofs.YtckkpgopddnkiaaGreat.Rl
open Go.RowKit Go.Sort Go.Shelf Go.Proofs.YtckkpgopddnkiaaGreat.Gm Go.Proofs.YtckkpgopddnkiaaGreat.RingE Go.Proofs.YtckkpgopddnkiaaGreat.Inputq
set_option linter.all false

theorem do_any (w wr : World) (cf : Cfg) (g : Nat) (s : SE) (x : H) (y : DV) (K : Nat) (h : DD w wr cf g s x y K) (hK : K < 100) (kd : Int) (u : Nat) (of : Int) (hu : u < 65536) :
    Calls Tryz.prog 22 #[.pointer (some ⟨g, 0, none⟩), .agg (dE cf y x), .agg #[.int .i64 kd, .int .u16 (u : Int), .int .i64 of]] wr (DoP w wr cf g s (K + 1)) := by
  have hlo := h.j.lo
  by_cases k0 : kd = 0
  · subst k0; exact do0_any w wr cf g s x y K h hK u of hu
  by_cases k1 : kd = 1
  · subst k1
    obtain e | e : cf.lo = 0 ∨ cf.lo = 1 := by omega
    · exact do1l0_any w wr cf g s x y K h u of hu e
    · exact do1l1_any w wr cf g s x y K h u of hu e
  by_cases k2 : kd = 2
  · subst k2; exact do2_any w wr cf g s x y K h hK u of
  by_cases k3 : kd = 3
  · subst k3
    by_cases hof : 140 < of
    · obtain e | e : cf.lo = 0 ∨ cf.lo = 1 := by omega
      · exact do3l0a_any w wr cf g s x y K h u of hu e hof
      · exact do3l1a_any w wr cf g s x y K h u of hu e hof
    · obtain e | e : cf.lo = 0 ∨ cf.lo = 1 := by omega
      · exact do3l0b_any w wr cf g s x y K h u of hu e hof
      · exact do3l1b_any w wr cf g s x y K h u of hu e hof
  exact doX_any w wr cf g s x y K h u kd of k0 k1 k2 k3

/-! ### New of a wrong config -/
section
attribute [local go_sem ↓] exec33 exec_bdEn
set_option maxRecDepth 100000 in
set_option maxHeartbeats 8000000 in
theorem new_bad (w : World) (sd : Nat) (lo de ah : Int) (hsd : sd < 4294967296) (h : rightB lo de ah = false) :
    Calls Tryz.prog 14 #[.agg #[.int .u32 (sd : Int), .int .i64 lo, .int .i64 de, .int .i64 ah]] w fun e w' => e = .returned (.tuple #[.pointer none, .int .i64 1]) ∧ Below w.heap.size w w' := by
  obtain ⟨W1, hW1⟩ : ∃ W1, W1 = w.alloc (.cells #[.int .u32 (sd : Int), .int .i64 lo, .int .i64 de, .int .i64 ah] 24) := ⟨_, rfl⟩
  have hX : Blk W1 w.heap.size 24 #[.int .u32 (sd : Int), .int .i64 lo, .int .i64 de, .int .i64 ah] := by rw [hW1]; exact Blk.new _ _ _
  have hB : Below w.heap.size w W1 := by rw [hW1]; exact (Below.refl _ w).alloc (Nat.le_refl _) _
  have k0 := hX.cell 0
  have k1 := hX.cell 1
  have k2 := hX.cell 2
  have k3 := hX.cell 3
  simp only [List.getElem?_toArray, List.getElem?_cons_zero, List.getElem?_cons_succ] at k0 k1 k2 k3
  have HB := Lib.hid hB
  have HR := Lib.hid h
  clear h
  by_cases h1 : lo < 0
  · go_enter Tryz.func14, Tryz.ntmps14
    go_upto_region 1 with fail
    rw [← hW1]
    clear hW1
    go_wp2_with fail
    go_ret2
    exact ⟨rfl, HB.out⟩
  by_cases h2 : 1 < lo
  · go_enter Tryz.func14, Tryz.ntmps14
    go_upto_region 1 with fail
    rw [← hW1]
    clear hW1
    go_wp2_with fail
    go_ret2
    exact ⟨rfl, HB.out⟩
  by_cases h3 : ah < 1
  · go_enter Tryz.func14, Tryz.ntmps14
    go_upto_region 1 with fail
    rw [← hW1]
    clear hW1
    go_wp2_with fail
    go_ret2
    exact ⟨rfl, HB.out⟩
  by_cases h4 : 16 < ah
  · go_enter Tryz.func14, Tryz.ntmps14
    go_upto_region 1 with fail
    rw [← hW1]
    clear hW1
    go_wp2_with fail
    go_ret2
    exact ⟨rfl, HB.out⟩
  have hde : de < 0 ∨ 8 < de := by
    have := HR.out
    unfold rightB at this
    simp only [decide_eq_false_iff_not] at this
    omega
  obtain ⟨c, hc⟩ : ∃ c : Cfg, c = ⟨sd, lo.toNat, de, ah⟩ := ⟨_, rfl⟩
  have hcl : ((lo.toNat : Nat) : Int) = lo := by omega
  obtain ⟨C, LC⟩ := let_of (newF (sd : Int))
  obtain ⟨E, hE⟩ : ∃ E, E = eB ⟨sd, lo.toNat, de, ah⟩ (.pointer none) (.pointer none) (.pointer none) C := ⟨_, rfl⟩
  have pN' : ∀ W, Calls Tryz.prog 30 #[.int .u32 (sd : Int)] W fun e w' => e = .returned (.agg C) ∧ Below W.heap.size W w' := fun W => by
    have := Gm.new_any W (sd : Int) (by omega) (by omega)
    unfold stV at this
    rw [← LC.eq] at this
    exact this
  have pN := Lib.hid pN'
  have hbd := buildEn_at LC hE
  simp only [cV] at hbd
  rw [hcl] at hbd
  have pQ := Lib.hid (fun W => Inputq.new_no de W hde)
  have HX := Lib.hid hX
  clear hE LC pN' hc c hde hcl
  go_enter Tryz.func14, Tryz.ntmps14
  go_upto_region 1 with fail
  rw [← hW1]
  clear hW1
  go_upto_region 3 with fail
  go_cut [4] (fun v wx => ∃ g, v = .pointer (some ⟨g, 0, none⟩) ∧ Below W1.heap.size W1 wx)
  case first =>
    go_region_law ((go_simp; go_at_call 30; refine (pN.out _).mono ?_; rintro e w3 ⟨rfl, h3⟩; have hq4 : Below W1.heap.size W1 w3 := ⟨h3.os, h3.tape, h3.output, h3.size, h3.block⟩; have k0' := (HX.out.below hq4 HX.out.lt).cell 0; have k1' := (HX.out.below hq4 HX.out.lt).cell 1; have k2' := (HX.out.below hq4 HX.out.lt).cell 2; have k3' := (HX.out.below hq4 HX.out.lt).cell 3; simp only [List.getElem?_toArray, List.getElem?_cons_zero, List.getElem?_cons_succ] at k0' k1' k2' k3'))
    all_goals
      go_wp2_with fail
      go_meet
      exact ⟨_, rfl, hq4.alloc hq4.size _⟩
  case rest =>
    obtain ⟨g, rfl, hb⟩ := hcut
    have HBB := Lib.hid hb
    clear hb hX k0 k1 k2 k3 hbd pN
    go_wp2_with fail
    go_loopw [32] (fun iv wr => iv = .int .i64 0 ∧ Below W1.heap.size W1 wr) (fun iv _ => 0)
    case atStart => exact ⟨rfl, HBB.out⟩
    case round =>
      clear HBB
      obtain ⟨rfl, hb⟩ := hrel
      have hXr := HX.out.below hb HX.out.lt
      have k2 := hXr.cell 2
      simp only [List.getElem?_toArray, List.getElem?_cons_zero, List.getElem?_cons_succ] at k2
      have HBB := Lib.hid (HB.out.trans (hb.mono HB.out.size))
      clear hb hXr
      go_wp2_with fail
      refine (pQ.out _).mono ?_
      rintro e w5 ⟨rfl, hw⟩
      obtain rfl := hw
      go_wp2_with fail
      go_ret2
      exact ⟨rfl, HBB.out⟩
end
end Go.Proofs.YtckkpgopddnkiaaGreat.Rl
namespace Go.Proofs.YtckkpgopddnkiaaGreat.Rl
open Go.RowKit Go.Sort Go.Shelf Go.Proofs.YtckkpgopddnkiaaGreat.Gm Go.Proofs.YtckkpgopddnkiaaGreat.RingE Go.Proofs.YtckkpgopddnkiaaGreat.Inputq
set_option linter.all false

theorem made_u16 (n : Nat) : madeCells (Value.cells (.int .u16 0)) n = (u16s (List.replicate n 0)).toArray := by
  apply Array.ext
  · rw [size_madeCells]; simp [u16s]
  · intro i h1 h2
    simp [madeCells, u16s, Value.cells, Nat.mod_one]
theorem mk_inputs (W : World) (n : Nat) (hn : n ≤ 1000) : (Instr.makeSlice 28 (.int .i64 (n : Int)) (.int .i64 (n : Int))).run Tryz.prog W = .ok (.slice (some ⟨W.heap.size, 0, none⟩) n n) (W.alloc (.cells (u16s (List.replicate n 0)).toArray 31)) := by
  obtain ⟨i0, hi, hz0, hz1, hz2⟩ := info_parts RingInput.info
  have := run_makeSlice (P := Tryz.prog) W 28 31 i0 (.int .u16 0) Tryz.underlying28 hi hz0 .i64 .i64 (n : Int) (n : Int) (by omega) (by omega) (by rw [hz1]; simp; omega) (by rw [hz2]; omega) (by omega)
  simp only [Int.toNat_natCast] at this
  rw [hz1, Nat.mul_one, made_u16] at this
  exact this
theorem on_made {W : World} {b n : Nat} (h : Blk W b 31 (u16s (List.replicate n 0)).toArray) (hn : n ≤ 1000) : On W 31 1 (.slice (some ⟨b, 0, none⟩) n n) n (u16s (List.replicate n 0)) := by
  refine ⟨by simp [u16s], .inr ⟨b, n, _, rfl, h, Nat.le_refl _, by simp only [maxLen]; omega, by simp [u16s], ?_⟩⟩
  rw [List.take_of_length_le (by simp [u16s])]
def y0 (a0 a1 n : Nat) : DV := ⟨some ⟨a0, 0, none⟩, n, some ⟨a1, 0, none⟩, n, none, 0⟩
theorem dE_new (c : Cfg) (n a0 a1 : Nat) (hn : c.de = (n : Int)) : dE c (y0 a0 a1 n) (newH c) = #[.int .u32 (c.sd : Int), .int .i64 (c.lo : Int), .int .i64 c.ah, .slice (some ⟨a0, 0, none⟩) n n, .slice (some ⟨a1, 0, none⟩) n n, .int .u16 0, .int .u16 0, .slice none 0 0, .int .i64 (-1), .int .i64 0, .int .i64 0, .int .i64 0] := by
  have e : ∀ i, (newH c).ks i = List.replicate n 0 := fun i => by show List.replicate c.de.toNat 0 = _; rw [hn]; rfl
  have el : ∀ i, lstH (newH c) i = 0 := fun i => by
    unfold lstH
    rw [e, List.getLastD_eq_getLast?]
    cases h : (List.replicate n 0 : List Nat).getLast? with
    | none => rfl
    | some v =>
      have := List.mem_of_getLast? h
      rw [(List.mem_replicate.1 this).2]
      rfl
  unfold dE
  rw [el, el, e, e, List.length_replicate]
  rfl
theorem doc_new {W : World} {c : Cfg} {n a0 a1 : Nat} (hn : c.de = (n : Int)) (hn2 : n ≤ 1000) (h0 : Blk W a0 31 (u16s (List.replicate n 0)).toArray) (h1 : Blk W a1 31 (u16s (List.replicate n 0)).toArray) : Doc W (y0 a0 a1 n) (newH c) := by
  have e : ∀ i, (newH c).ks i = List.replicate n 0 := fun i => by show List.replicate c.de.toNat 0 = _; rw [hn]; rfl
  refine ⟨?_, ?_, On.nil _ _ _⟩
  · rw [e, List.length_replicate]; exact on_made h0 hn2
  · rw [e, List.length_replicate]; exact on_made h1 hn2
theorem own_y0 {a0 a1 n k : Nat} (h : (y0 a0 a1 n).own k) : k = a0 ∨ k = a1 := by
  rcases h with h | h | h
  · simp [y0, Value.ownBlock] at h; exact .inl h.symm
  · simp [y0, Value.ownBlock] at h; exact .inr h.symm
  · simp [y0, Value.ownBlock] at h

theorem newB (W : World) (o : Obj) (cs : Array Value) {t : TypeId} : Blk ((W.alloc o).alloc (.cells cs t)) (W.heap.size + 1) t cs := by
  have := Blk.new (W.alloc o) t cs
  simpa using this
theorem newB2 (W : World) (o : Obj) (p : Addr) (v : Value) (cs : Array Value) {t : TypeId} : Blk (((W.alloc o).setCell p v).alloc (.cells cs t)) (W.heap.size + 1) t cs := by
  have := Blk.new ((W.alloc o).setCell p v) t cs
  simpa using this
def NwE (w wx : World) (sd lo ah : Int) (n : Nat) (Z : Array Value) : Prop :=
  ∃ a0 a1, Blk wx (w.heap.size + 1) 35 #[.int .u32 sd, .int .i64 lo, .int .i64 ah, .slice (some ⟨a0, 0, none⟩) n n, .slice (some ⟨a1, 0, none⟩) n n, .int .u16 0, .int .u16 0, .slice none 0 0, .int .i64 (-1), .int .i64 0, .int .i64 0, .int .i64 0] ∧ Blk wx w.heap.size 35 Z ∧ Blk wx a0 31 (u16s (List.replicate n 0)).toArray ∧ Blk wx a1 31 (u16s (List.replicate n 0)).toArray ∧ w.heap.size ≤ a0 ∧ w.heap.size ≤ a1 ∧ Below w.heap.size w wx
theorem newA (W : World) (p : Addr) (v : Value) (cs : Array Value) {t : TypeId} : Blk ((W.setCell p v).alloc (.cells cs t)) W.heap.size t cs := by
  have := Blk.new (W.setCell p v) t cs
  simpa using this
theorem newA2 (W : World) (p : Addr) (v : Value) (p' : Addr) (v' : Value) (cs : Array Value) {t : TypeId} : Blk (((W.setCell p v).setCell p' v').alloc (.cells cs t)) W.heap.size t cs := by
  have := Blk.new ((W.setCell p v).setCell p' v') t cs
  simpa using this
theorem newB3 (W : World) (p : Addr) (v : Value) (o : Obj) (cs : Array Value) {t : TypeId} : Blk (((W.setCell p v).alloc o).alloc (.cells cs t)) (W.heap.size + 1) t cs := by
  have := Blk.new ((W.setCell p v).alloc o) t cs
  simpa using this
theorem newB4 (W : World) (p : Addr) (v : Value) (p' : Addr) (v' : Value) (o : Obj) (cs : Array Value) {t : TypeId} : Blk ((((W.setCell p v).setCell p' v').alloc o).alloc (.cells cs t)) (W.heap.size + 1) t cs := by
  have := Blk.new (((W.setCell p v).setCell p' v').alloc o) t cs
  simpa using this
set_option maxRecDepth 100000 in
set_option maxHeartbeats 8000000 in
theorem rnewE_any (w : World) (c : Cfg) (n : Nat) (hn : c.de = (n : Int)) (hn2 : n ≤ 8) :
    Calls Tryz.prog 19 #[.int .u32 (c.sd : Int), .int .i64 (c.lo : Int), .int .i64 c.de, .int .i64 c.ah] w fun e w' => ∃ y, e = .returned (.agg (dE c y (newH c))) ∧ Doc w' y (newH c) ∧ Below w.heap.size w w' ∧ ∀ k, y.own k → w.heap.size ≤ k := by
  obtain ⟨Z, hZ⟩ : ∃ Z, zE = Z := ⟨_, rfl⟩
  have hZs : Z.size = 12 := by rw [← hZ]; exact zE_size
  obtain ⟨sd, hsd⟩ : ∃ sd : Int, (c.sd : Int) = sd := ⟨_, rfl⟩
  obtain ⟨lo, hlo⟩ : ∃ lo : Int, (c.lo : Int) = lo := ⟨_, rfl⟩
  obtain ⟨ah, hah⟩ : ∃ ah : Int, c.ah = ah := ⟨_, rfl⟩
  have hmk := fun W => mk_inputs W n (by omega)
  have HDE := Lib.hid (fun a0 a1 => dE_new c n a0 a1 hn)
  rw [hsd, hlo, hah] at HDE
  have HDN := Lib.hid (fun W a0 a1 h0 h1 => doc_new (W := W) (a0 := a0) (a1 := a1) hn (by omega) h0 h1)
  obtain ⟨W1, hW1⟩ : ∃ W1, W1 = (w.alloc (.cells Z 35)).alloc (.cells #[.int .u32 sd, .int .i64 lo, .int .i64 ah, .slice none 0 0, .slice none 0 0, .int .u16 0, .int .u16 0, .slice none 0 0, .int .i64 (-1), .int .i64 0, .int .i64 0, .int .i64 0] 35) := ⟨_, rfl⟩
  rw [hsd, hlo, hah, hn]
  go_enter Tryz.func19, Tryz.ntmps19
  go_upto_region 2 with fail
  rw [← hZ] at hW1
  unfold zE at hW1
  rw [← hW1]
  have hX : Blk W1 (w.heap.size + 1) 35 #[.int .u32 sd, .int .i64 lo, .int .i64 ah, .slice none 0 0, .slice none 0 0, .int .u16 0, .int .u16 0, .slice none 0 0, .int .i64 (-1), .int .i64 0, .int .i64 0, .int .i64 0] := by
    rw [hW1]
    have := Blk.new (w.alloc (.cells #[.int .u32 0, .int .i64 0, .int .i64 0, .slice none 0 0, .slice none 0 0, .int .u16 0, .int .u16 0, .slice none 0 0, .int .i64 0, .int .i64 0, .int .i64 0, .int .i64 0] 35)) 35 #[.int .u32 sd, .int .i64 lo, .int .i64 ah, .slice none 0 0, .slice none 0 0, .int .u16 0, .int .u16 0, .slice none 0 0, .int .i64 (-1), .int .i64 0, .int .i64 0, .int .i64 0]
    simpa using this
  have hR : Blk W1 w.heap.size 35 Z := by rw [hW1, ← hZ]; exact (Blk.new w _ _).alloc _
  have hB : Below w.heap.size w W1 := by rw [hW1]; exact ((Below.refl _ w).alloc (Nat.le_refl _) _).alloc (by simp) _
  clear hW1
  have f3 := fun o => (hX.alloc o).frozen 3
  have f3' := fun o o' => ((hX.alloc o).alloc o').frozen 3
  have f4' := fun o o' => ((hX.alloc o).alloc o').frozen 4
  have f4'' := fun o v o' => ((Blk.set_ (hX.alloc o) 3 v).alloc o').frozen 4
  have g3 := fun o => (hX.alloc o).cell 3
  have g3' := fun o o' => ((hX.alloc o).alloc o').cell 3
  have g4' := fun o o' => ((hX.alloc o).alloc o').cell 4
  have g4'' : ∀ o v o', (((W1.alloc o).setCell ⟨w.heap.size + 1, 3, none⟩ v).alloc o').cell? ⟨w.heap.size + 1, 4, none⟩ = some (.slice none 0 0) := fun o v o' => ((Blk.set_ (hX.alloc o) 3 v).alloc o').cell 4
  simp only [List.getElem?_toArray, List.getElem?_cons_zero, List.getElem?_cons_succ] at g3 g3' g4'
  have f4c := fun v o o' => (((Blk.set_ hX 3 v).alloc o).alloc o').frozen 4
  have g4c : ∀ v o o', (((W1.setCell ⟨w.heap.size + 1, 3, none⟩ v).alloc o).alloc o').cell? ⟨w.heap.size + 1, 4, none⟩ = some (.slice none 0 0) := fun v o o' => (((Blk.set_ hX 3 v).alloc o).alloc o').cell 4
  have hne : ¬ W1.heap.size = w.heap.size + 1 := by have := hX.lt; omega
  have hne2 : ¬ W1.heap.size + 1 = w.heap.size + 1 := by have := hX.lt; omega
  have hlt := hX.lt
  have HX := Lib.hid hX
  have HR := Lib.hid hR
  have HB := Lib.hid hB
  clear hX hR hB
  have K1 := Lib.hid (show NwE w ((((W1.alloc (.cells (u16s (List.replicate n 0)).toArray 31)).alloc (.cells (u16s (List.replicate n 0)).toArray 31)).setCell ⟨w.heap.size + 1, 3, none⟩ (.slice (some ⟨W1.heap.size, 0, none⟩) n n)).setCell ⟨w.heap.size + 1, 4, none⟩ (.slice (some ⟨W1.heap.size + 1, 0, none⟩) n n)).drew sd lo ah n Z from ⟨W1.heap.size, W1.heap.size + 1, (Blk.set_ (Blk.set_ ((HX.out.alloc _).alloc _) 3 _) 4 _).drew, ((((HR.out.alloc _).alloc _).far (by simp) _).far (by simp) _).drew, ((((Blk.new W1 _ _).alloc _).far hne _).far hne _).drew, (((newB W1 _ _).far hne2 _).far hne2 _).drew, by omega, by omega, (((((HB.out.alloc HB.out.size _).alloc (by simp; omega) _).setCell (by simp) _).setCell (by simp) _)).drew⟩)
  have K2 := Lib.hid (show NwE w ((((W1.alloc (.cells (u16s (List.replicate n 0)).toArray 31)).alloc (.cells (u16s (List.replicate n 0)).toArray 31)).setCell ⟨w.heap.size + 1, 3, none⟩ (.slice (some ⟨W1.heap.size + 1, 0, none⟩) n n)).setCell ⟨w.heap.size + 1, 4, none⟩ (.slice (some ⟨W1.heap.size, 0, none⟩) n n)).drew sd lo ah n Z from ⟨W1.heap.size + 1, W1.heap.size, (Blk.set_ (Blk.set_ ((HX.out.alloc _).alloc _) 3 _) 4 _).drew, ((((HR.out.alloc _).alloc _).far (by simp) _).far (by simp) _).drew, (((newB W1 _ _).far hne2 _).far hne2 _).drew, ((((Blk.new W1 _ _).alloc _).far hne _).far hne _).drew, by omega, by omega, (((((HB.out.alloc HB.out.size _).alloc (by simp; omega) _).setCell (by simp) _).setCell (by simp) _)).drew⟩)
  have K3 := Lib.hid (show NwE w ((((W1.setCell ⟨w.heap.size + 1, 3, none⟩ (.slice (some ⟨W1.heap.size, 0, none⟩) n n)).alloc (.cells (u16s (List.replicate n 0)).toArray 31)).alloc (.cells (u16s (List.replicate n 0)).toArray 31)).setCell ⟨w.heap.size + 1, 4, none⟩ (.slice (some ⟨W1.heap.size + 1, 0, none⟩) n n)).drew sd lo ah n Z from ⟨W1.heap.size, W1.heap.size + 1, (Blk.set_ (((Blk.set_ HX.out 3 _).alloc _).alloc _) 4 _).drew, ((((HR.out.far (by simp) _).alloc _).alloc _).far (by simp) _).drew, (((newA W1 _ _ _).alloc _).far hne _).drew, ((newB3 W1 _ _ _ _).far hne2 _).drew, by omega, by omega, ((((HB.out.setCell (by simp) _).alloc (by simp; omega) _).alloc (by simp; omega) _).setCell (by simp) _).drew⟩)
  go_cut [] (fun wx => NwE w wx sd lo ah n Z)
  case first =>
    go_region
    all_goals
      go_wp2_with fail
      go_meet
      first
        | exact K1.out
        | exact K2.out
        | exact K3.out
        | fail
  case rest =>
    obtain ⟨a0, a1, hb, hr, h0, h1, l0, l1, bw⟩ := hcut
    have hd := HDN.out _ _ _ h0 h1
    have hE := HDE.out a0 a1
    have he := dE_size c (y0 a0 a1 n) (newH c)
    have hi := dE_info c (y0 a0 a1 n) (newH c)
    have ho := dE_one c (y0 a0 a1 n) (newH c)
    rw [← hE] at hb
    obtain ⟨E, hEE⟩ : ∃ E, dE c (y0 a0 a1 n) (newH c) = E := ⟨_, rfl⟩
    have HEE := Lib.hid hEE
    rw [hEE] at hb he hi ho
    have hzr : Z.size = E.size := by rw [hZs, he]
    have HD := Lib.hid hd
    have HBW := Lib.hid bw
    have HN := Lib.hid (hd.ne hr)
    clear hE hEE hd bw h0 h1 HX HR HB K1 K2 K3 f3 f3' f4' f4'' g3 g3' g4' g4'' hmk f4c g4c
    go_wp2_with (first | (refine wpList_load_blk (by rfl) 35 _ (by rfl) (w.heap.size + 1) (by rfl) _ E _ hb Tryz.underlying35 (by rfl) hi ?_) | (refine wpList_store_blk (by rfl) 35 _ _ (by rfl) w.heap.size E (by rfl) (by rfl) _ Z hr hi hzr ho ?_; intro W6 hd6 ht6) | fail)
    refine bodyPost_ret (v := .agg E) (results_blk Tryz.results19 _ _ w.heap.size _ _ _ (by rfl) hd6 Tryz.underlying35 (by rfl) hi) rfl ?_
    exact ⟨y0 a0 a1 n, by rw [HEE.out], HD.out.touch ht6 (fun k hk e => HN.out (e ▸ hk)), HBW.out.trans (ht6.below HBW.out.size (fun k hk => by omega)), fun k hk => (own_y0 hk).elim (fun e => by omega) (fun e => by omega)⟩
end Go.Proofs.YtckkpgopddnkiaaGreat.Rl
namespace Go.Proofs.YtckkpgopddnkiaaGreat.Rl
open Go.RowKit Go.Sort Go.Shelf Go.Proofs.YtckkpgopddnkiaaGreat.Gm Go.Proofs.YtckkpgopddnkiaaGreat.RingE Go.Proofs.YtckkpgopddnkiaaGreat.Inputq
set_option linter.all false

theorem trip_results {fn : Func} (hfn : fn.results = #[.tmp 4, .cell 5 35, .tmp 6]) (tmps : Array Value) (W : World) (g : Nat) (t : TypeId) (C : Array Value) (u v : Value) (h : Blk W g t C) (hC : (Tryz.prog.info? 35).map (·.size) = some C.size)
    (h3 : tmps.getD 4 undef = u) (h4 : tmps.getD 5 undef = .pointer (some ⟨g, 0, none⟩)) (h5 : tmps.getD 6 undef = v) : (results fn tmps).run Tryz.prog W = .ok (.tuple #[u, .agg C, v]) W := by
  have e3 : tmps[4]?.getD undef = u := by simpa using h3
  have e4 : tmps[5]?.getD undef = .pointer (some ⟨g, 0, none⟩) := by simpa using h4
  have e5 : tmps[6]?.getD undef = v := by simpa using h5
  have hl := run_loadVar_row (P := Tryz.prog) W g t 35 C (0, 0) _ h Tryz.underlying35 rfl hC
  simp [results, hfn, e3, e4, e5, asAddr, hl]

/-- played's own blocks: the config, the result, the document's engine. -/
structure PlB (b : Nat) (W : World) (K : Array Value) (Z E : Array Value) : Prop where
  cf : Blk W b 24 K
  rs : Blk W (b + 1) 35 Z
  bx : Blk W (b + 2) 35 E
theorem PlB.below {b : Nat} {W W' : World} {K Z E : Array Value} (h : PlB b W K Z E) (hb : Below W.heap.size W W') : PlB b W' K Z E :=
  ⟨h.cf.below hb h.cf.lt, h.rs.below hb h.rs.lt, h.bx.below hb h.bx.lt⟩
theorem PlB.tn {b : Nat} {W W' : World} {K Z E : Array Value} {s s' : SE} {cf : Cfg} {x : H} (h : PlB b W K Z E) (hA : HAt W cf s x) (ht : Tn s s' W W') : PlB b W' K Z E :=
  ⟨ht.blk h.cf hA (by decide), ht.blk h.rs hA (by decide), ht.blk h.bx hA (by decide)⟩
theorem plB_start (w : World) (K Z : Array Value) : PlB w.heap.size (((w.alloc (.cells K 24)).alloc (.cells Z 35)).alloc (.cells Z 35)) K Z Z := by
  refine ⟨((Blk.new w _ _).alloc _).alloc _, ?_, ?_⟩
  · have := (Blk.new (w.alloc (.cells K 24)) 35 Z).alloc (.cells Z 35)
    simpa using this
  · have := Blk.new ((w.alloc (.cells K 24)).alloc (.cells Z 35)) 35 Z
    simpa using this

section
attribute [local go_sem ↓] exec_ldE exec_stE
attribute [local go_sem] loadE_at cellsAt_drew
set_option maxRecDepth 100000 in
set_option maxHeartbeats 8000000 in
theorem played_bad (w : World) (sd : Nat) (lo de ah : Int) (hsd : sd < 4294967296) (v : Value) (h : rightB lo de ah = false) :
    Calls Tryz.prog 6 #[.agg #[.int .u32 (sd : Int), .int .i64 lo, .int .i64 de, .int .i64 ah], v] w fun e w' => ∃ Z, e = .returned (.tuple #[.pointer none, .agg Z, .bool true]) ∧ Z.size = 12 ∧ Z.all (·.oneCell') = true ∧ Below w.heap.size w w' := by
  obtain ⟨Z, hZ⟩ : ∃ Z, zE = Z := ⟨_, rfl⟩
  have hZs : Z.size = 12 := by rw [← hZ]; exact zE_size
  have hZo : Z.all (·.oneCell') = true := by rw [← hZ]; simp [zE, Value.oneCell']
  have hZi : (Tryz.prog.info? 35).map (·.size) = some Z.size := by rw [hZs]; exact infoE
  obtain ⟨W1, hW1⟩ : ∃ W1, W1 = ((w.alloc (.cells #[.int .u32 (sd : Int), .int .i64 lo, .int .i64 de, .int .i64 ah] 24)).alloc (.cells Z 35)).alloc (.cells Z 35) := ⟨_, rfl⟩
  have hP : PlB w.heap.size W1 #[.int .u32 (sd : Int), .int .i64 lo, .int .i64 de, .int .i64 ah] Z Z := by rw [hW1]; exact plB_start _ _ _
  have hB : Below w.heap.size w W1 := by rw [hW1]; exact below3 _ _ _ _
  have pN := Lib.hid (fun W => new_bad W sd lo de ah hsd h)
  have pR := Lib.hid (show ∀ W, Calls Tryz.prog 18 #[.agg #[.int .u32 (sd : Int), .int .i64 lo, .int .i64 de, .int .i64 ah]] W fun e w' => e = .returned (.bool false) ∧ Below W.heap.size W w' from fun W => by
    have := right_law W sd lo de ah
    rw [h] at this
    exact this)
  have k0 := hP.cf.cell 0
  have k1 := hP.cf.cell 1
  have k2 := hP.cf.cell 2
  have k3 := hP.cf.cell 3
  simp only [List.getElem?_toArray, List.getElem?_cons_zero, List.getElem?_cons_succ] at k0 k1 k2 k3
  have HP := Lib.hid hP
  have HB := Lib.hid hB
  clear hP hB h
  go_enter Tryz.func6, Tryz.ntmps6
  go_upto_region 2 with fail
  rw [← hZ] at hW1
  unfold zE at hW1
  rw [← hW1]
  clear hW1
  go_wp2_with fail
  refine (pN.out _).mono ?_
  rintro e w2 ⟨rfl, b2⟩
  have hP2 := HP.out.below b2
  have k0 := hP2.cf.cell 0
  have k1 := hP2.cf.cell 1
  have k2 := hP2.cf.cell 2
  have k3 := hP2.cf.cell 3
  simp only [List.getElem?_toArray, List.getElem?_cons_zero, List.getElem?_cons_succ] at k0 k1 k2 k3
  have HP2 := Lib.hid hP2
  have HB2 := Lib.hid (HB.out.trans (b2.mono HB.out.size))
  clear hP2 b2 HP HB
  go_wp2_with fail
  refine (pR.out _).mono ?_
  rintro e w3 ⟨rfl, b3⟩
  have hP3 := HP2.out.below b3
  have c7 : cellsAt w3.drew (w.heap.size + 2) = Z := cellsAt_blk hP3.bx
  obtain ⟨W7, hst, hd7, ht7⟩ := storeRE (w := w3.drew) hP3.rs.drew hZi rfl hZo
  have HB3 := Lib.hid (HB2.out.trans (b3.mono HB2.out.size)).drew
  have h3s := (HB2.out.trans (b3.mono HB2.out.size)).size
  clear hP3 b3 HP2 HB2 k0 k1 k2 k3
  go_upto_region 4 with fail
  go_region
  all_goals
    clear hst c7
    go_wp2_with fail
    refine bodyPost_ret (v := .tuple #[.pointer none, .agg Z, .bool true]) (trip_results Tryz.results6 _ _ (w.heap.size + 1) _ Z _ _ hd7 hZi (by rfl) (by rfl) (by rfl)) rfl ?_
    exact ⟨Z, rfl, hZs, hZo, HB3.out.trans (ht7.below HB3.out.size (fun k hk => by omega))⟩
end
theorem let_same3 {C : Array Value} {f : F} (L : Let C f) (wf : Wf f) : ∀ W, (Op.equalIn 10000 47 (.agg C) (.agg C)).run Tryz.prog W = .ok true W := by
  obtain ⟨e, -, -, -⟩ := L
  subst e
  intro W
  exact st_same W wf wf rfl
/-- The state now, in both. -/
theorem DD.states {w wr : World} {cf : Cfg} {g : Nat} {s : SE} {x : H} {y : DV} {K : Nat} (h : DD w wr cf g s x y K) :
    ∃ C, (∀ W, (Op.equalIn 10000 47 (.agg C) (.agg C)).run Tryz.prog W = .ok true W) ∧ (∀ W, Below wr.heap.size wr W → Calls Tryz.prog 20 #[.pointer (some ⟨g, 0, none⟩)] W fun e w' => e = .returned (.agg C) ∧ Below W.heap.size W w') ∧
      (∀ W, Below wr.heap.size wr W → Calls Tryz.prog 11 #[.agg (dE cf y x), .int .i64 (x.us.length : Int)] W fun e w' => e = .returned (.agg C) ∧ Below W.heap.size W w') ∧ Let C (pl cf.sd x.us x.us.length) := by
  obtain ⟨C, LC, hS⟩ := state_h h.ha
  have hun := h.j.un
  rw [h.ea] at hS
  refine ⟨C, let_same3 LC ((pl_inv h.j.sd x.us _).wf (by omega) (by omega) (by omega)), hS, fun W hb => ?_, LC⟩
  refine (rstate_any W cf x y (h.dc.below hb) h.j h.ib x.us.length (Nat.le_refl _)).mono fun e w' ⟨C', LC', he, hb'⟩ => ⟨?_, hb'⟩
  rw [he, LC'.eq, LC.eq]
/-- What played carries. -/
structure PL (w wr : World) (cf : Cfg) (g : Nat) (s : SE) (x : H) (y : DV) (Z : Array Value) (K : Nat) : Prop where
  dd : DD w wr cf g s x y K
  pb : PlB w.heap.size wr #[.int .u32 (cf.sd : Int), .int .i64 (cf.lo : Int), .int .i64 cf.de, .int .i64 cf.ah] Z (dE cf y x)
theorem PL.below {w wr W : World} {cf : Cfg} {g : Nat} {s : SE} {x : H} {y : DV} {Z : Array Value} {K : Nat} (h : PL w wr cf g s x y Z K) (hb : Below wr.heap.size wr W) : PL w W cf g s x y Z K := ⟨h.dd.below hb, h.pb.below hb⟩
/-- The start. -/
theorem PL.start {w w3 w5 W7 : World} {cf : Cfg} {s : SE} {y : DV} {Z : Array Value} (hA : HAt w3 cf s (newH cf)) (hj : J cf (newH cf)) (b3 : Below w.heap.size w w3) (fa : ∀ k, fpE s k → w.heap.size ≤ k)
    (b5 : Below w3.heap.size w3 w5) (hd : Doc w5 y (newH cf)) (ho : ∀ k, y.own k → w3.heap.size ≤ k) (hP : PlB w.heap.size w5 #[.int .u32 (cf.sd : Int), .int .i64 (cf.lo : Int), .int .i64 cf.de, .int .i64 cf.ah] Z Z)
    (hbx : Blk W7 (w.heap.size + 2) 35 (dE cf y (newH cf))) (ht : Touch (fun k => k = w.heap.size + 2) w5 W7) : PL w W7 cf s.g s (newH cf) y Z 0 := by
  have hA5 := hA.below b5
  have b35 := b3.trans (b5.mono b3.size)
  refine ⟨⟨rfl, hA5.touch ht (fun k hk e => hA5.other hP.bx (by decide) (e ▸ hk)), hj, hd.touch ht (fun k hk e => hd.ne hP.bx (e ▸ hk)), fun k hk h2 => ?_, b35.trans (ht.below b35.size (fun k hk => by omega)), fa, ⟨by simp [newH], by simp [newH], by simp [newH]⟩, fun p hp => by simp [newH] at hp⟩, ⟨hP.cf.touch ht (by omega), hP.rs.touch ht (by omega), hbx⟩⟩
  have := ho k hk
  have := hA.lt k h2
  omega
end Go.Proofs.YtckkpgopddnkiaaGreat.Rl
namespace Go.Proofs.YtckkpgopddnkiaaGreat.Rl
open Go.RowKit Go.Sort Go.Shelf Go.Proofs.YtckkpgopddnkiaaGreat.Gm Go.Proofs.YtckkpgopddnkiaaGreat.RingE Go.Proofs.YtckkpgopddnkiaaGreat.Inputq
set_option linter.all false

/-- Behind do: the new engine of the document in a block of its own. -/
structure PM (w wr : World) (cf : Cfg) (g : Nat) (s : SE) (x : H) (y : DV) (Z E : Array Value) (k K : Nat) : Prop where
  dd : DD w wr cf g s x y K
  pb : PlB w.heap.size wr #[.int .u32 (cf.sd : Int), .int .i64 (cf.lo : Int), .int .i64 cf.de, .int .i64 cf.ah] Z E
  nw : Blk wr k 35 (dE cf y x)
  hk : w.heap.size + 3 ≤ k
theorem PM.of {w wr w5 V W : World} {cf : Cfg} {g : Nat} {s s' : SE} {x x' : H} {y y' : DV} {Z E cs : Array Value} {k K : Nat} (hDD : DD w w5 cf g s' x' y' K) (hP : PlB w.heap.size w5 #[.int .u32 (cf.sd : Int), .int .i64 (cf.lo : Int), .int .i64 cf.de, .int .i64 cf.ah] Z E)
    (hV : Below w5.heap.size w5 V) (hk : Blk V k 35 cs) (hk3 : w.heap.size + 3 ≤ k) (ht : Touch (fun b => b = k) V W) (hn : Blk W k 35 (dE cf y' x')) : PM w W cf g s' x' y' Z E k K := by
  have h2 := hDD.below hV
  have hp := hP.below hV
  exact ⟨h2.res hk (by omega) ht, ⟨hp.cf.touch ht (by omega), hp.rs.touch ht (by omega), hp.bx.touch ht (by omega)⟩, hn, hk3⟩
theorem PM.below {w wr W : World} {cf : Cfg} {g : Nat} {s : SE} {x : H} {y : DV} {Z E : Array Value} {k K : Nat} (h : PM w wr cf g s x y Z E k K) (hb : Below wr.heap.size wr W) : PM w W cf g s x y Z E k K :=
  ⟨h.dd.below hb, h.pb.below hb, h.nw.below hb h.nw.lt, h.hk⟩
theorem PM.next {w wr W : World} {cf : Cfg} {g : Nat} {s : SE} {x : H} {y : DV} {Z E : Array Value} {k K : Nat} (h : PM w wr cf g s x y Z E k K) (ht : Touch (fun b => b = w.heap.size + 2) wr W) (hn : Blk W (w.heap.size + 2) 35 (dE cf y x)) : PL w W cf g s x y Z K :=
  ⟨h.dd.res h.pb.bx (by omega) ht, ⟨h.pb.cf.touch ht (by omega), h.pb.rs.touch ht (by omega), hn⟩⟩
section
attribute [local go_sem ↓] exec_ldE exec_stE
attribute [local go_sem] loadE_at cellsAt_drew
set_option maxRecDepth 100000 in
set_option maxHeartbeats 16000000 in
theorem played_in (w : World) (cf : Cfg) (hsd : cf.sd < 4294967296) (hlo : cf.lo < 2) (hah : 1 ≤ cf.ah ∧ cf.ah ≤ 16) (hde : 0 ≤ cf.de ∧ cf.de ≤ 8) (a : Option Addr) (c : Nat) (ops : List (Int × Nat × Int)) (hops : ROps w a ops) (hlen : ops.length ≤ 9223372036854775807) :
    Calls Tryz.prog 6 #[.agg #[.int .u32 (cf.sd : Int), .int .i64 (cf.lo : Int), .int .i64 cf.de, .int .i64 cf.ah], .slice a ops.length c] w fun e W => ∃ s x y, e = .returned (.tuple #[.pointer (some ⟨s.g, 0, none⟩), .agg (dE cf y x), .bool true]) ∧ DD w W cf s.g s x y 60 := by
  obtain ⟨Z, hZ⟩ : ∃ Z, zE = Z := ⟨_, rfl⟩
  have hZs : Z.size = 12 := by rw [← hZ]; exact zE_size
  obtain ⟨W1, hW1⟩ : ∃ W1, W1 = ((w.alloc (.cells #[.int .u32 (cf.sd : Int), .int .i64 (cf.lo : Int), .int .i64 cf.de, .int .i64 cf.ah] 24)).alloc (.cells Z 35)).alloc (.cells Z 35) := ⟨_, rfl⟩
  have hP : PlB w.heap.size W1 #[.int .u32 (cf.sd : Int), .int .i64 (cf.lo : Int), .int .i64 cf.de, .int .i64 cf.ah] Z Z := by rw [hW1]; exact plB_start _ _ _
  have hB : Below w.heap.size w W1 := by rw [hW1]; exact below3 _ _ _ _
  have hj0 : J cf (newH cf) := newH_J hsd hlo hah hde
  have pN := Lib.hid (fun W => new_any W cf hsd hlo hah hde)
  unfold cV at pN
  have pR := Lib.hid (show ∀ W, Calls Tryz.prog 18 #[.agg #[.int .u32 (cf.sd : Int), .int .i64 (cf.lo : Int), .int .i64 cf.de, .int .i64 cf.ah]] W fun e w' => e = .returned (.bool true) ∧ Below W.heap.size W w' from fun W => by
    have := right_law W (cf.sd : Int) (cf.lo : Int) cf.de cf.ah
    rw [show rightB (cf.lo : Int) cf.de cf.ah = true by unfold rightB; simp; omega] at this
    exact this)
  have pE := Lib.hid (fun W => rnewE_any W cf cf.de.toNat (by omega) (by omega))
  have HJ0 := Lib.hid hj0
  have HOPS := Lib.hid hops
  obtain ⟨l, hl⟩ : ∃ l, ops.length = l := ⟨_, rfl⟩
  have HL := Lib.hid hl
  rw [hl] at hlen ⊢
  have k0 := hP.cf.cell 0
  have k1 := hP.cf.cell 1
  have k2 := hP.cf.cell 2
  have k3 := hP.cf.cell 3
  simp only [List.getElem?_toArray, List.getElem?_cons_zero, List.getElem?_cons_succ] at k0 k1 k2 k3
  have HP := Lib.hid hP
  have HB := Lib.hid hB
  have HSD := Lib.hid hsd
  clear hP hB hops hl hj0 hlo hah hde hsd
  go_enter Tryz.func6, Tryz.ntmps6
  go_upto_region 2 with fail
  rw [← hZ] at hW1
  unfold zE at hW1
  rw [← hW1]
  clear hW1
  go_wp2_with fail
  refine (pN.out _).mono ?_
  rintro e w2 ⟨s, rfl, hA, b2, fa⟩
  obtain ⟨g, hg⟩ : ∃ g, s.g = g := ⟨_, rfl⟩
  rw [hg]
  have HG := Lib.hid hg
  have hP2 := HP.out.below b2
  have k0 := hP2.cf.cell 0
  have k1 := hP2.cf.cell 1
  have k2 := hP2.cf.cell 2
  have k3 := hP2.cf.cell 3
  simp only [List.getElem?_toArray, List.getElem?_cons_zero, List.getElem?_cons_succ] at k0 k1 k2 k3
  have HP2 := Lib.hid hP2
  have HB2 := Lib.hid (HB.out.trans (b2.mono HB.out.size))
  have HA2 := Lib.hid hA
  have HFA := Lib.hid (show ∀ k, fpE s k → w.heap.size ≤ k from fun k hk => Nat.le_trans HB.out.size (fa k hk))
  clear hP2 b2 HP HB hA fa hg
  go_wp2_with fail
  refine (pR.out _).mono ?_
  rintro e w3 ⟨rfl, b3⟩
  have hP3 := HP2.out.below b3
  have k0 := hP3.cf.cell 0
  have k1 := hP3.cf.cell 1
  have k2 := hP3.cf.cell 2
  have k3 := hP3.cf.cell 3
  simp only [List.getElem?_toArray, List.getElem?_cons_zero, List.getElem?_cons_succ] at k0 k1 k2 k3
  have HP3 := Lib.hid hP3
  have HA3 := Lib.hid (HA2.out.below b3)
  have HB3 := Lib.hid (HB2.out.trans (b3.mono HB2.out.size))
  clear hP3 b3 HP2 HB2 HA2
  go_wp2_with fail
  refine (pE.out _).mono ?_
  rintro e w5 ⟨y, rfl, hd, b5, ho⟩
  have hP5 := HP3.out.below b5
  have hbx5 := hP5.bx
  have he1 := dE_size cf y (newH cf)
  have hi1 := dE_info cf y (newH cf)
  have ho1 := dE_one cf y (newH cf)
  have HPS := Lib.hid (show ∀ W7, Blk W7 (w.heap.size + 2) 35 (dE cf y (newH cf)) → Touch (fun k => k = w.heap.size + 2) w5 W7 → PL w W7 cf g s (newH cf) y Z 0 from fun W7 hb ht => by
    have := PL.start HA3.out HJ0.out HB3.out HFA.out b5 hd ho hP5 hb ht
    rw [HG.out] at this
    exact this)
  obtain ⟨E1, hE1⟩ : ∃ E1, dE cf y (newH cf) = E1 := ⟨_, rfl⟩
  rw [hE1] at he1 hi1 ho1 ⊢
  have HE1 := Lib.hid hE1
  have hzz : Z.size = E1.size := by rw [hZs, he1]
  clear hd b5 ho hP5 HP3 HA3 HB3 HFA HG hE1 pN pR pE k0 k1 k2 k3 HJ0
  go_upto_region 6 with (first | (refine wpList_store_blk (by rfl) 35 _ _ (by rfl) (w.heap.size + 2) E1 (by rfl) (by rfl) _ _ hbx5 hi1 hzz ho1 ?_; intro W7 hd7 ht7) | fail)
  have hPL := HPS.out W7 (by rw [HE1.out]; exact hd7) ht7
  obtain ⟨C, hEq, hS, hRS, LC⟩ := hPL.dd.states
  have hN : ∀ W, Calls Tryz.prog 21 #[.int .u32 (cf.sd : Int)] W fun e w' => e = .returned (.agg C) ∧ Below W.heap.size W w' := fun W => by
    have := rnew_any W (cf.sd : Int) (by have := HSD.out; omega) (by have := HSD.out; omega)
    unfold stV at this
    rw [show newF (cf.sd : Int) = pl cf.sd (newH cf).us (newH cf).us.length from rfl, ← LC.eq] at this
    exact this
  have cS := regrown W7 (fun W hb => hS W hb)
  have cN := regrown W7 (fun W _ => hN W)
  have q0 := cell_regrown (hPL.pb.cf.cell 0)
  have HPL := Lib.hid hPL
  clear hPL hS hRS hN LC hbx5 hd7 ht7 HPS HE1 he1 hi1 ho1 hzz
  refine wp_region_quiet_below (by kernel_rfl) (by kernel_rfl) ?_
  repeat (quiet_step (first | exact cS _ _ | exact cN _ _))
  refine wpQuiet_nil ?_
  intro W8 hw'
  obtain ⟨⟨dq, osq⟩, hw''⟩ := hw'
  have HPL8 := Lib.hid (HPL.out.below (show Below W7.heap.size W7 W8 from by rw [hw'']; exact below_regrown _ _ _))
  clear hw'' cS cN q0 HPL hEq
  go_wp2_with fail
  go_loopw [10] (fun iv wr => ∃ (i : Nat) (s : SE) (x : H) (y : DV), i ≤ 60 ∧ iv = .int .i64 (i : Int) ∧ PL w wr cf g s x y Z i) (fun iv _ => 60 - (intOf iv).toNat)
  case atStart => exact ⟨0, s, _, y, by omega, rfl, HPL8.out⟩
  case round =>
    clear HPL8
    obtain ⟨i, s, x, y, hi, rfl, hX⟩ := hrel
    have HX := Lib.hid hX
    by_cases c1 : i < l
    · have c1' : (i : Int) < (l : Int) := by omega
      by_cases c2 : i < 60
      · have c2' : (i : Int) < 60 := by omega
        obtain ⟨o, ho⟩ : ∃ o, ops[i]? = some o := ⟨_, List.getElem?_eq_getElem (by rw [HL.out]; exact c1)⟩
        obtain ⟨hb1, hb2, hb3⟩ := HOPS.out.1 o (List.mem_of_getElem? ho)
        obtain ⟨ob, off, rfl, hbl, hcs⟩ := HOPS.out.2 (by rw [HL.out]; omega)
        obtain ⟨k0, k1, k2⟩ := hcs i o ho
        obtain ⟨kd, u, of⟩ := o
        have hoc : ∀ W, Below wr.heap.size wr W → W.cell? ⟨ob, off + i * 3, none⟩ = some (.int .i64 kd) ∧ W.cell? ⟨ob, off + i * 3 + 1, none⟩ = some (.int .u16 (u : Int)) ∧ W.cell? ⟨ob, off + i * 3 + 1 + 1, none⟩ = some (.int .i64 of) := fun W hb => by
          have hlo := HX.out.dd.lo.trans (hb.mono HX.out.dd.lo.size)
          exact ⟨(hlo.cell (p := ⟨ob, off + i * 3, none⟩) hbl).trans k0, (hlo.cell (p := ⟨ob, off + i * 3 + 1, none⟩) hbl).trans k1, (hlo.cell (p := ⟨ob, off + i * 3 + 1 + 1, none⟩) hbl).trans k2⟩
        simp only at hb1 hb2 hb3
        have j0 : (0 : Int) ≤ (i : Int) := by omega
        have hbd : Below wr.heap.size wr wr.drew := (Below.refl _ wr).drew
        have hbe : Below wr.heap.size wr (wr.alloc (.cells #[.int .u32 0, .int .i64 0, .int .i64 0, .slice none 0 0, .slice none 0 0, .int .u16 0, .int .u16 0, .slice none 0 0, .int .i64 0, .int .i64 0, .int .i64 0, .int .i64 0] 35)).drew := ((Below.refl _ wr).alloc (Nat.le_refl _) _).drew
        obtain ⟨z0, z1, z2⟩ := hoc _ hbd
        obtain ⟨y0, y1, y2⟩ := hoc _ hbe
        have hes := dE_size cf y x
        have hei := dE_info cf y x
        have PDO := Lib.hid (show ∀ W, Below wr.heap.size wr W → Calls Tryz.prog 22 #[.pointer (some ⟨g, 0, none⟩), .agg (dE cf y x), .agg #[.int .i64 kd, .int .u16 (u : Int), .int .i64 of]] W (DoP w W cf g s (i + 1)) from fun W hb => do_any w W cf g s x y i (hX.dd.below hb) (by omega) kd u of hb1)
        have HPB := Lib.hid (show ∀ W s' w5, Below wr.heap.size wr W → Tn s s' W w5 → PlB w.heap.size w5 #[.int .u32 (cf.sd : Int), .int .i64 (cf.lo : Int), .int .i64 cf.de, .int .i64 cf.ah] Z (dE cf y x) from fun W s' w5 hb ht => (hX.pb.below hb).tn (hX.dd.ha.below hb) ht)
        have HEA := Lib.hid (show ∀ W s' w5, Below wr.heap.size wr W → Tn s s' W w5 → ∀ k cs, Blk W k 35 cs → Blk w5 k 35 cs from fun W s' w5 hb ht k cs hk => ht.blk hk (hX.dd.ha.below hb) (by decide))
        have hwz := hX.pb.bx.lt
        have hcx := fun W (hb : Below wr.heap.size wr W) => cellsAt_blk (hX.pb.bx.below hb hX.pb.bx.lt)
        have c7d := hcx _ hbd
        have c7e := hcx _ hbe
        obtain ⟨E, hE⟩ : ∃ E, dE cf y x = E := ⟨_, rfl⟩
        rw [hE] at hes hei PDO HPB c7d c7e
        have HSE := Lib.hid hes
        clear hcs k0 k1 k2 hX HX ho hoc hcx hE
        go_upto_region 11 with fail
        go_cut [11, 12] (fun pv bv wx => ∃ s' x' y' k, pv = .pointer (some ⟨k, 0, none⟩) ∧ bv = .bool true ∧ PM w wx cf g s' x' y' Z E k (i + 1))
        case first =>
          go_region_law
            (first
              | (go_simp; go_at_call 22; (with_reducible refine (PDO.out _ hbd).mono ?_); rintro e w5 ⟨s', x', y', rfl, hDD, hTn⟩; have hPB := HPB.out _ s' w5 hbd hTn; have hzk := hPB.bx.lt; obtain ⟨E1, hE1⟩ : ∃ E1, dE cf y' x' = E1 := ⟨_, rfl⟩; have he1 := dE_size cf y' x'; have hi1 := dE_info cf y' x'; have ho1 := dE_one cf y' x'; rw [hE1] at he1 hi1 ho1 ⊢; obtain ⟨W7, hst, hd7, ht7⟩ := storeRE (w := w5.alloc (.cells #[.int .u32 0, .int .i64 0, .int .i64 0, .slice none 0 0, .slice none 0 0, .int .u16 0, .int .u16 0, .slice none 0 0, .int .i64 0, .int .i64 0, .int .i64 0, .int .i64 0] 35)) (Blk.new w5 35 #[.int .u32 0, .int .i64 0, .int .i64 0, .slice none 0 0, .slice none 0 0, .int .u16 0, .int .u16 0, .slice none 0 0, .int .i64 0, .int .i64 0, .int .i64 0, .int .i64 0]) hi1 (by rw [he1]; rfl) ho1; have HFN := Lib.hid (show PM w W7 cf g s' x' y' Z E w5.heap.size (i + 1) from PM.of (wr := wr) (s := s) (x := x) (y := y) hDD hPB ((Below.refl _ w5).alloc (Nat.le_refl _) _) (Blk.new w5 35 #[.int .u32 0, .int .i64 0, .int .i64 0, .slice none 0 0, .slice none 0 0, .int .u16 0, .int .u16 0, .slice none 0 0, .int .i64 0, .int .i64 0, .int .i64 0, .int .i64 0]) (by omega) ht7 (by rw [hE1]; exact hd7)))
              | (go_simp; go_at_call 22; (with_reducible refine (PDO.out _ hbe).mono ?_); rintro e w5 ⟨s', x', y', rfl, hDD, hTn⟩; have hPB := HPB.out _ s' w5 hbe hTn; have hbk := HEA.out _ s' w5 hbe hTn wr.heap.size #[.int .u32 0, .int .i64 0, .int .i64 0, .slice none 0 0, .slice none 0 0, .int .u16 0, .int .u16 0, .slice none 0 0, .int .i64 0, .int .i64 0, .int .i64 0, .int .i64 0] (Blk.new wr 35 #[.int .u32 0, .int .i64 0, .int .i64 0, .slice none 0 0, .slice none 0 0, .int .u16 0, .int .u16 0, .slice none 0 0, .int .i64 0, .int .i64 0, .int .i64 0, .int .i64 0]); obtain ⟨E1, hE1⟩ : ∃ E1, dE cf y' x' = E1 := ⟨_, rfl⟩; have he1 := dE_size cf y' x'; have hi1 := dE_info cf y' x'; have ho1 := dE_one cf y' x'; rw [hE1] at he1 hi1 ho1 ⊢; obtain ⟨W7, hst, hd7, ht7⟩ := storeRE (w := w5) hbk hi1 (by rw [he1]; rfl) ho1; have HFN := Lib.hid (show PM w W7 cf g s' x' y' Z E wr.heap.size (i + 1) from PM.of (wr := wr) (s := s) (x := x) (y := y) hDD hPB (Below.refl _ w5) hbk (by omega) ht7 (by rw [hE1]; exact hd7)))
              | fail)
          all_goals
            clear hst hd7 ht7 hDD hTn
            go_wp2_with fail
            go_meet
            exact ⟨s', x', y', _, rfl, rfl, HFN.out⟩
        case rest =>
          obtain ⟨s', x', y', k, rfl, rfl, hPM⟩ := hcut
          clear z0 z1 z2 y0 y1 y2 c7d c7e PDO HPB HEA hes hei hbd hbe
          have he1 := dE_size cf y' x'
          have hi1 := dE_info cf y' x'
          have ho1 := dE_one cf y' x'
          have pI := Lib.hid (show Calls Tryz.prog 23 #[.pointer (some ⟨g, 0, none⟩), .agg (dE cf y' x')] wc fun e w' => e = .returned (.bool true) ∧ Below wc.heap.size wc w' from by
            have := is_any wc cf s' x' y' hPM.dd.ha hPM.dd.j
            rw [hPM.dd.ea] at this
            exact this)
          have HPM := Lib.hid hPM
          have hnw := hPM.nw
          have HCL := Lib.hid (fun (W : World) (b : Nat) (hb : Blk W b 35 (dE cf y' x')) => (dE_cells hb).2.2.2.2.2.2.2.1)
          have HNX := Lib.hid (show ∀ W V, Below wc.heap.size wc W → Touch (fun b => b = w.heap.size + 2) W V → Blk V (w.heap.size + 2) 35 (dE cf y' x') → PL w V cf g s' x' y' Z (i + 1) from fun W V hb ht hn => (hPM.below hb).next ht hn)
          have hun := hPM.dd.un
          obtain ⟨E1, hE1⟩ : ∃ E1, dE cf y' x' = E1 := ⟨_, rfl⟩
          have HE1 := Lib.hid hE1
          rw [hE1] at he1 hi1 ho1 pI hnw HCL HNX
          have ck : cellsAt wc k = E1 := cellsAt_blk hnw
          clear hPM hE1
          go_wp2_with fail
          clear ck
          refine pI.out.mono ?_
          rintro e w12 ⟨rfl, b12⟩
          have hPM12 := HPM.out.below b12
          have hnw12 := hPM12.nw
          rw [HE1.out] at hnw12
          have hbx12 := hPM12.pb.bx
          have HB12 := Lib.hid b12
          have hzE : E.size = E1.size := by rw [he1]; have := hbx12; exact (show E.size = 12 from HSE.out)
          clear hPM12 b12 pI hnw HPM
          go_upto_region 15 with (first | (refine wpList_load_blk (by rfl) 35 _ (by rfl) k (by rfl) _ E1 _ hnw12 Tryz.underlying35 (by rfl) hi1 ?_) | (refine wpList_store_blk (by rfl) 35 _ _ (by rfl) (w.heap.size + 2) E1 (by rfl) (by rfl) _ _ hbx12 hi1 hzE ho1 ?_; intro W14 hd14 ht14) | fail)
          have hPL := HNX.out w12 W14 HB12.out ht14 hd14
          obtain ⟨C, hEq, hS, hRS, LC⟩ := hPL.dd.states
          rw [HE1.out] at hRS
          have cS := regrown W14 (fun W hb => hS W hb)
          have cR := regrown W14 (fun W hb => hRS W hb)
          have q7 := cell_regrown (HCL.out W14 _ hd14)
          have hcr : ∀ (d : Nat) (os : Array Obj), cellsAt (grow (redrawn W14 d) os) (w.heap.size + 2) = E1 := fun d os => cellsAt_blk (hd14.below (below_regrown W14 d os) hd14.lt)
          have HPL := Lib.hid hPL
          have hrm : (i : Int).tmod 4 = ((i % 4 : Nat) : Int) := by rw [Int.tmod_eq_emod_of_nonneg (by omega)]; rfl
          have hrw : IntKind.i64.wrap ((i % 4 : Nat) : Int) = ((i % 4 : Nat) : Int) := IntWalk.i64_in _ (by omega)
          clear hPL hS hRS LC hd14 ht14 HNX HCL HB12 hnw12 hbx12 hun
          generalize x'.us.length = l2 at *
          by_cases hm : i % 4 = 3
          · rw [hm] at hrm hrw
            have hrm' : (i : Int).tmod 4 = 3 := hrm
            have hrw' : IntKind.i64.wrap 3 = 3 := hrw
            clear hrm hrw hm
            refine wp_region_quiet_below (by kernel_rfl) (by kernel_rfl) ?_
            repeat (quiet_step (first | exact cS _ _ | exact cR _ _))
            refine wpQuiet_nil ?_
            intro W16 hw'
            obtain ⟨⟨dq, osq⟩, hw''⟩ := hw'
            have HPL16 := Lib.hid (HPL.out.below (show Below W14.heap.size W14 W16 from by rw [hw'']; exact below_regrown _ _ _))
            clear hw'' cS cR q7 hcr HPL hEq hrm' hrw'
            go_wp2_with fail
            go_roundw
            case rel => exact ⟨i + 1, s', x', y', by omega, by go_num, HPL16.out⟩
            case measure => simp [intOf]; omega
          · obtain ⟨r, hr⟩ : ∃ r : Int, ((i % 4 : Nat) : Int) = r := ⟨_, rfl⟩
            have hr3 : (r == 3) = false := beq_eq_false_iff_ne.mpr (by omega)
            have hr3' : ¬ r = 3 := by omega
            rw [hr] at hrm hrw
            clear hm hr
            refine wp_region_quiet_below (by kernel_rfl) (by kernel_rfl) ?_
            repeat (first | go_big_quiet_step (fail) | quiet_step (fail))
            refine wpQuiet_nil ?_
            intro W16 hw'
            obtain ⟨⟨dq, osq⟩, hw''⟩ := hw'
            have HPL16 := Lib.hid (HPL.out.below (show Below W14.heap.size W14 W16 from by rw [hw'']; exact below_regrown _ _ _))
            clear hw'' cS cR q7 hcr HPL hEq hrm hrw hr3 hr3'
            go_wp2_with fail
            go_roundw
            case rel => exact ⟨i + 1, s', x', y', by omega, by go_num, HPL16.out⟩
            case measure => simp [intOf]; omega
      · obtain rfl : i = 60 := by omega
        rw [show ((60 : Nat) : Int) = 60 from rfl]
        clear hX
        obtain ⟨C, hEq, hS, hRS, LC⟩ := HX.out.dd.states
        have hes := dE_size cf y x
        have hei := dE_info cf y x
        have heo := dE_one cf y x
        have HSS := Lib.hid hS
        have HRS := Lib.hid hRS
        have HBX := Lib.hid (show ∀ W, Below wr.heap.size wr W → PlB w.heap.size W #[.int .u32 (cf.sd : Int), .int .i64 (cf.lo : Int), .int .i64 cf.de, .int .i64 cf.ah] Z (dE cf y x) from fun W hb => HX.out.pb.below hb)
        have HCL := Lib.hid (fun (W : World) (b : Nat) (hb : Blk W b 35 (dE cf y x)) => (dE_cells hb).2.2.2.2.2.2.2.1)
        have HFN := Lib.hid (show ∀ W V, Below wr.heap.size wr W → Touch (fun b => b = w.heap.size + 1) W V → ∃ s1 x1 y1, Ending.returned (.tuple #[.pointer (some ⟨g, 0, none⟩), .agg (dE cf y x), .bool true]) = .returned (.tuple #[.pointer (some ⟨s1.g, 0, none⟩), .agg (dE cf y1 x1), .bool true]) ∧ DD w V cf s1.g s1 x1 y1 60 from fun W V hb ht => by
          have h1 := HX.out.below hb
          have h2 := h1.dd.res h1.pb.rs (by omega) ht
          refine ⟨s, x, y, by rw [HX.out.dd.ea], { h2 with ea := rfl, un := ?_ }⟩
          have := h2.un
          omega)
        have hbd : Below wr.heap.size wr wr.drew := (Below.refl _ wr).drew
        have hP1 := HBX.out _ hbd
        have c0 : cellsAt wr.drew (w.heap.size + 2) = dE cf y x := cellsAt_blk hP1.bx
        have u0 := HCL.out _ _ hP1.bx
        clear hS hRS LC hP1 HX
        generalize x.us.length = l2 at *
        obtain ⟨E, hE⟩ : ∃ E, dE cf y x = E := ⟨_, rfl⟩
        rw [hE] at hes hei heo HRS HBX HCL HFN c0
        have hzr : Z.size = E.size := by rw [hZs, hes]
        clear hE
        go_upto_region 17 with fail
        go_region_held3 (fun W => cellsAt W (w.heap.size + 2) = E ∧ W.cell? ⟨w.heap.size + 2, 7, none⟩ = some (.slice y.au l2 y.cu)) (first | exact ⟨c0, u0⟩ | exact ⟨c1, u1⟩ | exact ⟨c2, u2⟩ | exact ⟨c3, u3⟩ | fail "no keep")
          (first
            | (go_at_call 20; (with_reducible refine (HSS.out _ hbd).mono ?_); rintro e w5 ⟨rfl, b5'⟩; have b5 := hbd.trans (b5'.mono hbd.size); have hP5 := HBX.out _ b5; have c1 : cellsAt w5 (w.heap.size + 2) = E := cellsAt_blk hP5.bx; have u1 := HCL.out _ _ hP5.bx)
            | (go_at_call 11; (with_reducible refine (HRS.out _ b5).mono ?_); rintro e w6 ⟨rfl, b6'⟩; have b6 := b5.trans (b6'.mono b5.size); have hP6 := HBX.out _ b6; have c2 : cellsAt w6 (w.heap.size + 2) = E := cellsAt_blk hP6.bx; have u2 := HCL.out _ _ hP6.bx; obtain ⟨W9, hst, hd9, ht9⟩ := storeRE hP6.rs hei hzr heo; have hbx9 := hP6.bx.touch ht9 (by omega); have c3 : cellsAt W9 (w.heap.size + 2) = E := cellsAt_blk hbx9; have u3 := HCL.out _ _ hbx9)
            | fail "no arm")
        all_goals
          go_wp2_with fail
          refine bodyPost_ret (v := .tuple #[.pointer (some ⟨g, 0, none⟩), .agg E, .bool true]) (trip_results Tryz.results6 _ _ (w.heap.size + 1) _ E _ _ hd9 hei (by rfl) (by rfl) (by rfl)) rfl ?_
          exact HFN.out w6 W9 b6 ht9
    · have c1' : ¬ (i : Int) < (l : Int) := by omega
      clear hX
      obtain ⟨C, hEq, hS, hRS, LC⟩ := HX.out.dd.states
      have hes := dE_size cf y x
      have hei := dE_info cf y x
      have heo := dE_one cf y x
      have HSS := Lib.hid hS
      have HRS := Lib.hid hRS
      have HBX := Lib.hid (show ∀ W, Below wr.heap.size wr W → PlB w.heap.size W #[.int .u32 (cf.sd : Int), .int .i64 (cf.lo : Int), .int .i64 cf.de, .int .i64 cf.ah] Z (dE cf y x) from fun W hb => HX.out.pb.below hb)
      have HCL := Lib.hid (fun (W : World) (b : Nat) (hb : Blk W b 35 (dE cf y x)) => (dE_cells hb).2.2.2.2.2.2.2.1)
      have HFN := Lib.hid (show ∀ W V, Below wr.heap.size wr W → Touch (fun b => b = w.heap.size + 1) W V → ∃ s1 x1 y1, Ending.returned (.tuple #[.pointer (some ⟨g, 0, none⟩), .agg (dE cf y x), .bool true]) = .returned (.tuple #[.pointer (some ⟨s1.g, 0, none⟩), .agg (dE cf y1 x1), .bool true]) ∧ DD w V cf s1.g s1 x1 y1 60 from fun W V hb ht => by
        have h1 := HX.out.below hb
        have h2 := h1.dd.res h1.pb.rs (by omega) ht
        refine ⟨s, x, y, by rw [HX.out.dd.ea], { h2 with ea := rfl, un := ?_ }⟩
        have := h2.un
        omega)
      have hbd : Below wr.heap.size wr wr.drew := (Below.refl _ wr).drew
      have hP1 := HBX.out _ hbd
      have c0 : cellsAt wr.drew (w.heap.size + 2) = dE cf y x := cellsAt_blk hP1.bx
      have u0 := HCL.out _ _ hP1.bx
      clear hS hRS LC hP1 HX
      generalize x.us.length = l2 at *
      obtain ⟨E, hE⟩ : ∃ E, dE cf y x = E := ⟨_, rfl⟩
      rw [hE] at hes hei heo HRS HBX HCL HFN c0
      have hzr : Z.size = E.size := by rw [hZs, hes]
      clear hE
      go_upto_region 17 with fail
      go_region_held3 (fun W => cellsAt W (w.heap.size + 2) = E ∧ W.cell? ⟨w.heap.size + 2, 7, none⟩ = some (.slice y.au l2 y.cu)) (first | exact ⟨c0, u0⟩ | exact ⟨c1, u1⟩ | exact ⟨c2, u2⟩ | exact ⟨c3, u3⟩ | fail "no keep")
        (first
          | (go_at_call 20; (with_reducible refine (HSS.out _ hbd).mono ?_); rintro e w5 ⟨rfl, b5'⟩; have b5 := hbd.trans (b5'.mono hbd.size); have hP5 := HBX.out _ b5; have c1 : cellsAt w5 (w.heap.size + 2) = E := cellsAt_blk hP5.bx; have u1 := HCL.out _ _ hP5.bx)
          | (go_at_call 11; (with_reducible refine (HRS.out _ b5).mono ?_); rintro e w6 ⟨rfl, b6'⟩; have b6 := b5.trans (b6'.mono b5.size); have hP6 := HBX.out _ b6; have c2 : cellsAt w6 (w.heap.size + 2) = E := cellsAt_blk hP6.bx; have u2 := HCL.out _ _ hP6.bx; obtain ⟨W9, hst, hd9, ht9⟩ := storeRE hP6.rs hei hzr heo; have hbx9 := hP6.bx.touch ht9 (by omega); have c3 : cellsAt W9 (w.heap.size + 2) = E := cellsAt_blk hbx9; have u3 := HCL.out _ _ hbx9)
          | fail "no arm")
      all_goals
        go_wp2_with fail
        refine bodyPost_ret (v := .tuple #[.pointer (some ⟨g, 0, none⟩), .agg E, .bool true]) (trip_results Tryz.results6 _ _ (w.heap.size + 1) _ E _ _ hd9 hei (by rfl) (by rfl) (by rfl)) rfl ?_
        exact HFN.out w6 W9 b6 ht9
end
end Go.Proofs.YtckkpgopddnkiaaGreat.Rl
namespace Go.Proofs.YtckkpgopddnkiaaGreat
open Go.RowKit Go.ChangeShapes Go.WideShapes Go.ChangeAt

theorem open_row {H : Type} {enc : TypeId × Value → H} {P : Program} {W : World} {base : Nat} {spare : Nat → Bool} {held : Bool} {t e : TypeId} {k : IntKind} {r : Reach} {b0 : Nat} {v : Value} {d : DataW H} {p : List MemPlace}
    (ht : P.underlying t = some (.slice e)) (he : P.underlying e = some (.int k)) (hc : P.cellsOf e = 1) (hv : Value.okWide P W r b0 t v) (h : DataW.Trod enc P W base spare held t v d p) :
    ∃ a len cap zs, v = .slice a len cap ∧ len ≤ cap ∧ cap ≤ maxLen ∧ Row k W a len zs ∧ ∀ n ∈ zs, (Lit.int k n).wf = true := by
  obtain ⟨a0, len0, cap0, rfl⟩ := okWide_slice ht hv
  obtain ⟨fuel, hf⟩ := h
  rcases open_ints ht he hc hf with ⟨hcs, _⟩ | ⟨x, l, c, zs, hcs, _, hl, hm, hz, _, hcell, hwz⟩
  · simp [Value.cells] at hcs
    obtain ⟨rfl, rfl, rfl⟩ := hcs
    exact ⟨none, 0, 0, [], rfl, Nat.le_refl _, by simp [maxLen], ⟨rfl, fun h => by omega⟩, fun n hn => by cases hn⟩
  · simp [Value.cells] at hcs
    obtain ⟨rfl, rfl, rfl⟩ := hcs
    have hzl : len0 ≤ zs.length := by rw [hz]; split <;> omega
    refine ⟨some x, len0, cap0, zs.take len0, rfl, hl, hm, ⟨by simp; omega, fun hp => ?_⟩, fun n hn => hwz n (List.mem_of_mem_take hn)⟩
    obtain ⟨b, off, spot⟩ := x
    have c0 := hcell 0 (by omega)
    have hspot : spot = none := by simpa [Addr.add] using World.cell?_spot c0
    subst hspot
    have hadd : ∀ j, (⟨b, off, none⟩ : Addr).add j = ⟨b, off + j, none⟩ := fun j => by unfold Addr.add; split <;> simp_all
    refine ⟨b, off, rfl, ?_, fun j hj => ?_⟩
    · have := World.block_lt_of_cell? W _ c0
      rw [hadd] at this
      exact this
    · have hcj := hcell j (by omega)
      rw [hadd] at hcj
      rw [hcj]
      simp [nth, List.getD, hj]
end Go.Proofs.YtckkpgopddnkiaaGreat
namespace Go.Proofs.YtckkpgopddnkiaaGreat.I2
open Go.RowKit Go.ChangeShapes Go.WideShapes Go.ChangeAt Go.Deep Go.Proofs.YtckkpgopddnkiaaGreat.Gm
set_option linter.all false

theorem list_of {α : Type} {P : Nat → α → Prop} : ∀ (n : Nat), (∀ i, i < n → ∃ x, P i x) → ∃ l : List α, l.length = n ∧ ∀ j x, l[j]? = some x → P j x
  | 0, _ => ⟨[], rfl, fun j x h => by simp at h⟩
  | n + 1, h => by
    obtain ⟨l, hl, hp⟩ := list_of n (fun i hi => h i (by omega))
    obtain ⟨x, hx⟩ := h n (by omega)
    refine ⟨l ++ [x], by simp [hl], fun j y hy => ?_⟩
    by_cases hj : j < n
    · rw [List.getElem?_append_left (by omega)] at hy; exact hp j y hy
    · rw [List.getElem?_append_right (by omega)] at hy
      have : j - l.length = 0 := by
        have := (List.getElem?_eq_some_iff.1 hy).1
        simp at this; omega
      rw [this] at hy
      have e : j = n := by omega
      subst e
      simpa using (by simpa using hy : x = y) ▸ hx
theorem bounds_u16 {n : Int} (h : (Lit.int .u16 n).wf = true) : 0 ≤ n ∧ n < 65536 := by
  simp [Lit.wf, IntKind.min, IntKind.max, IntKind.bits, IntKind.signed] at h
  omega
theorem bounds_u32 {n : Int} (h : (Lit.int .u32 n).wf = true) : 0 ≤ n ∧ n < 4294967296 := by
  simp [Lit.wf, IntKind.min, IntKind.max, IntKind.bits, IntKind.signed] at h
  omega
theorem inA_get {ls : List (Nat × Nat)} {j : Nat} {x : Nat × Nat} (h : ls[j]? = some x) : inA ls j 0 = x.1 ∧ inA ls j 1 = x.2 := by
  unfold inA
  rw [List.getD_eq_getElem?_getD, h]
  exact ⟨rfl, rfl⟩

theorem open_in2 {H : Type} {enc : TypeId × Value → H} {P : Program} {W : World} {base : Nat} {spare : Nat → Bool} {held : Bool} {t e e1 : TypeId} {r : Reach} {b0 : Nat} {v : Value} {d : DataW H} {p : List MemPlace}
    (ht : P.underlying t = some (.slice e)) (he : P.underlying e = some (.array 2 e1)) (he1 : P.underlying e1 = some (.int .u16)) (hc : P.cellsOf e = 2) (hc1 : P.cellsOf e1 = 1)
    (hv : Value.okWide P W r b0 t v) (h : DataW.Trod enc P W base spare held t v d p) :
    ∃ a cap, ∃ ls : List (Nat × Nat), v = .slice a ls.length cap ∧ InRow W a ls ∧ ls.length ≤ cap ∧ cap ≤ maxLen := by
  obtain ⟨a0, len0, cap0, rfl⟩ := okWide_slice ht hv
  obtain ⟨fuel, hf⟩ := h
  rcases open_slice ht hf with ⟨hcs, _⟩ | ⟨a, len, cap, m, n, D, Pl, hcs, hb, hl, hm, hmm, _, hi⟩
  · simp [Value.cells] at hcs
    obtain ⟨rfl, rfl, rfl⟩ := hcs
    exact ⟨none, 0, [], rfl, ⟨fun x hx => by simp at hx, fun h => by simp at h⟩, by simp, by simp [maxLen]⟩
  · simp [Value.cells] at hcs
    obtain ⟨rfl, rfl, rfl⟩ := hcs
    have hlm : len0 ≤ m := by rw [hmm]; split <;> omega
    have each : ∀ i, i < len0 → ∃ x : Nat × Nat, (W.cell? (a.add (i * 2 + 0)) = some (.int .u16 x.1) ∧ W.cell? (a.add (i * 2 + 1)) = some (.int .u16 x.2)) ∧ x.1 < 65536 ∧ x.2 < 65536 := by
      intro i hil
      obtain ⟨cs', hcc, ht'⟩ := hi i (by omega)
      rw [hc] at hcc
      obtain ⟨xs, m', _, _, hcl, hxl, hx⟩ := DataW.trod_array he ht'
      obtain ⟨_, hcl2, hat⟩ := World.cells?_some hcc
      have t0 := hx 0 (by omega)
      have t1 := hx 1 (by omega)
      rw [hc1] at t0 t1
      simp only [Nat.zero_mul, Nat.one_mul, List.drop_zero] at t0 t1
      have x0 : xs[0]? = some (xs[0]'(by omega)) := List.getElem?_eq_getElem (by omega)
      have x1 : xs[1]? = some (xs[1]'(by omega)) := List.getElem?_eq_getElem (by omega)
      obtain ⟨n0, e0, _, w0⟩ := DataW.trod_int he1 (t0.trans x0)
      obtain ⟨n1, e1, _, w1⟩ := DataW.trod_int he1 (t1.trans x1)
      have b0 := bounds_u16 w0
      have b1 := bounds_u16 w1
      have g0 := hat 0 (by omega)
      have g1 := hat 1 (by omega)
      have k0 : cs'[0]? = some (.int .u16 n0) := by
        have := congrArg (fun l => l[0]?) e0
        simpa [List.getElem?_take] using this
      have k1 : cs'[1]? = some (.int .u16 n1) := by
        have := congrArg (fun l => l[0]?) e1
        simpa [List.getElem?_take, List.getElem?_drop] using this
      obtain ⟨m0, rfl⟩ : ∃ m0 : Nat, n0 = m0 := ⟨n0.toNat, by omega⟩
      obtain ⟨m1, rfl⟩ : ∃ m1 : Nat, n1 = m1 := ⟨n1.toNat, by omega⟩
      refine ⟨(m0, m1), ⟨?_, ?_⟩, by omega, by omega⟩
      · rw [← Go.Deep.add_add, g0, k0]
      · rw [← Go.Deep.add_add, g1, k1]
    obtain ⟨ls, hol, hops⟩ := list_of len0 each
    subst hol
    refine ⟨some a, cap0, ls, rfl, ⟨fun x hx => ?_, fun hp => ?_⟩, hl, hm⟩
    · obtain ⟨i, hi⟩ := List.getElem?_of_mem hx
      exact (hops i x hi).2
    · obtain ⟨b, off, spot⟩ := a
      obtain ⟨x, hx⟩ : ∃ x, ls[0]? = some x := ⟨ls[0]'(by omega), by simp⟩
      have c0 := (hops 0 x hx).1.1
      have hspot : spot = none := by simpa [Addr.add] using World.cell?_spot c0
      subst hspot
      have hadd : ∀ j, (⟨b, off, none⟩ : Addr).add j = ⟨b, off + j, none⟩ := fun j => by unfold Addr.add; split <;> simp_all
      refine ⟨b, off, rfl, ?_, fun j hj => ?_⟩
      · have := World.block_lt_of_cell? W _ c0
        rw [hadd] at this
        exact this
      · have hg : ls[j]? = some (ls[j]'hj) := List.getElem?_eq_getElem hj
        have := (hops j _ hg).1
        simp only [hadd, ← Nat.add_assoc, Nat.add_zero] at this
        rw [(inA_get hg).1, (inA_get hg).2]
        exact this
end Go.Proofs.YtckkpgopddnkiaaGreat.I2
