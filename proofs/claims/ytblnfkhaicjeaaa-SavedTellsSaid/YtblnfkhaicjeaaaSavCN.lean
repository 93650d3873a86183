/-
  Package saved: At, Sum, Sums; backstayref24 by value: Next, At. Conditions: the states lie in memory, numbers without overflow.
-/
import Derived.Test.YtblnfkhaicjeaaaSavAB
namespace Go.Proofs.Ytblnfkhaicjeaaa.Sav
open Go.RowKit Go.Sort Go.Proofs.Ytblnfkhaicjeaaa.Gm Go.Proofs.Ytblnfkhaicjeaaa.RingE
set_option linter.all false

theorem hz67 : Try.zeroCells149.size = 67 := by rw [zE]; simp [cs_len]
theorem alloc_storeE (w : World) {C : Array Value} {x : NT} (L : EL C x) : ∃ W3, (storeCells ⟨w.heap.size, 0, none⟩ C.toList).run Try.prog (w.alloc (.cells Try.zeroCells149 149)) = .ok () W3 ∧ Blk W3 w.heap.size 149 C ∧ Below w.heap.size w W3 ∧ w.heap.size + 1 = W3.heap.size := by
  have hX : Blk (w.alloc (.cells Try.zeroCells149 149)) w.heap.size 149 Try.zeroCells149 := Blk.new _ _ _
  have := run_storeCells_from (P := Try.prog) w.heap.size 149 C.toList 0 _ _ hX (by rw [hz67]; simp [L.size]) (fun v hv => (Array.all_eq_true_iff_forall_mem.1 L.one) v (by simpa using hv))
  refine ⟨_, this, ?_, ?_, by simp⟩
  · have e : (Try.zeroCells149.toList.take 0 ++ C.toList).toArray = C := by simp
    rw [e]
    exact hX.setRow C
  · exact ((Below.refl _ w).alloc (Nat.le_refl _) _).trans ((touch_setRow _ w.heap.size _).below (by simp) (fun k hk => by omega))
theorem el_sum {C : Array Value} {x : NT} (h : EL C x) : C[66]? = some (.int .u32 x.2) := by
  rw [← Array.getElem?_toList, h.eq]
  simp [cs, stA_size]
theorem el_state {C : Array Value} {x : NT} (h : EL C x) {m : Nat} {v : Value} (hv : (stA x.1).toList[m]? = some v) : C[m]? = some v := by
  rw [← Array.getElem?_toList, h.eq]
  unfold cs
  rw [List.getElem?_append_left]
  · exact hv
  · exact (List.getElem?_eq_some_iff.1 hv).1

set_option maxRecDepth 100000 in
set_option maxHeartbeats 4000000 in
theorem sum_any (w : World) (g r : Nat) (room first n : Int) (sv : Value) (l : List NT) (h : SA w g r room first sv l) (h0 : 0 ≤ first) (hn : n ≤ 9223372036854775807) :
    Calls Try.prog 37 #[.pointer (some ⟨g, 0, none⟩), .int .i64 n] w fun e w' => e = .returned (.tuple #[.int .u32 (atX first l n).2, .int .i64 (atE first l.length n)]) ∧ Below w.heap.size w w' := by
  have c0 := h.c0
  have p := Lib.hid (at_any w r room first n sv l h.2 h0 hn)
  clear h
  go_enter Try.func37, Try.ntmps37
  go_wp2_with fail
  refine p.out.mono ?_
  rintro e w1 ⟨E, LE, rfl, hb⟩
  obtain ⟨W3, hrun, hB3, hb3, hz3⟩ := alloc_storeE w1 LE
  have hes := LE.size
  have hz67' := hz67
  have HL := Lib.hid LE
  clear LE
  go_upto_region 2 with fail
  clear hrun hz67'
  have c1 : W3.cell? ⟨w1.heap.size, 66, none⟩ = some (.int .u32 (atX first l n).2) := (hB3.cell 66).trans (el_sum HL.out)
  have HB := Lib.hid (hb.trans (hb3.mono hb.size))
  clear hB3 hb3 hb
  go_wp2_with fail
  go_ret2
  exact ⟨rfl, HB.out⟩

/-- Two results, the first a state in a cell. -/
theorem pair_resultsS {fn : Func} (hfn : fn.results = #[.cell 4 33, .tmp 5]) (tmps : Array Value) (W : World) (g : Nat) (t : TypeId) (C : Array Value) (v : Value) (h : Blk W g t C) (hC : (Try.prog.info? 33).map (·.size) = some C.size)
    (h4 : tmps.getD 4 undef = .pointer (some ⟨g, 0, none⟩)) (h5 : tmps.getD 5 undef = v) : (results fn tmps).run Try.prog W = .ok (.tuple #[.agg C, v]) W := by
  have e4 : tmps[4]?.getD undef = .pointer (some ⟨g, 0, none⟩) := by simpa using h4
  have e5 : tmps[5]?.getD undef = v := by simpa using h5
  have hl := run_loadVar_row (P := Try.prog) W g t 33 C (0, 0) _ h Try.underlying33 rfl hC
  simp [results, hfn, e4, e5, asAddr, hl]

set_option maxRecDepth 100000 in
set_option maxHeartbeats 4000000 in
theorem sat_any (w : World) (g r : Nat) (room first n : Int) (sv : Value) (l : List NT) (h : SA w g r room first sv l) (h0 : 0 ≤ first) (hn : n ≤ 9223372036854775807) :
    Calls Try.prog 36 #[.pointer (some ⟨g, 0, none⟩), .int .i64 n] w fun e w' => ∃ C, Let C (atX first l n).1 ∧ e = .returned (.tuple #[.agg C, .int .i64 (atE first l.length n)]) ∧ Below w.heap.size w w' := by
  obtain ⟨Z, LZ⟩ := let_of zF
  have hZ : Try.zeroCells33 = Z := by rw [LZ.eq, ← stA_zero]
  obtain ⟨W1, hW1⟩ : ∃ W1, W1 = w.alloc (.cells Z 33) := ⟨_, rfl⟩
  have hR : Blk W1 w.heap.size 33 Z := by rw [hW1]; exact Blk.new _ _ _
  have hB : Below w.heap.size w W1 := by rw [hW1]; exact (Below.refl _ w).alloc (Nat.le_refl _) _
  have hA := h.below hB
  have c0 := hA.c0
  have p := Lib.hid (at_any W1 r room first n sv l hA.2 h0 hn)
  have hzs := LZ.size
  have HB := Lib.hid hB
  obtain ⟨D, LD⟩ := let_of (atX first l n).1
  have hds := LD.size
  have hdo := LD.one
  have hdi := LD.info
  have hdl : (Try.prog.info? 33).map (·.size) = some D.toList.length := by rw [Array.length_toList]; exact hdi
  have hzd : Z.size = D.size := by rw [hzs, hds]
  have HD := Lib.hid LD
  clear h hA hB LZ LD
  go_enter Try.func36, Try.ntmps36
  go_upto_region 1 with fail
  rw [← hW1]
  clear hW1 hZ
  go_wp2_with fail
  refine p.out.mono ?_
  rintro e w1 ⟨E, LE, rfl, hb⟩
  obtain ⟨W3, hrun, hB3, hb3, hz3⟩ := alloc_storeE w1 LE
  have hes := LE.size
  have hz67' := hz67
  have HL := Lib.hid LE
  clear LE
  go_upto_region 2 with fail
  clear hrun hz67' p
  have hrg : W3.rangeAt w1.heap.size 0 D.toList := fun m v hv => by
    rw [Nat.zero_add]
    exact (hB3.cell m).trans (el_state HL.out (by rw [← HD.out.eq]; exact hv))
  have HW := Lib.hid (hb.trans (hb3.mono hb.size))
  have hR3 := hR.below (HW.out) (by exact hR.lt)
  have hne := hR.lt
  clear hR hB3 hb3 hb
  go_wp2_with (first
    | (refine wpList_load_mid (by rfl) 33 _ (by rfl) w1.heap.size 0 (by rfl) D.toList _ hrg Try.underlying33 (by rfl) hdl ?_)
    | (refine wpList_store_blk (by rfl) 33 _ _ (by rfl) w.heap.size D (by rfl) (by rfl) _ Z hR3 hdi hzd hdo ?_; intro W6 hd6 ht6)
    | fail)
  refine bodyPost_ret (v := .tuple #[.agg D, .int .i64 (atE first l.length n)]) (pair_resultsS Try.results36 _ _ w.heap.size _ D _ hd6 hdi (by rfl) (by rfl)) rfl ⟨D, HD.out, rfl, ?_⟩
  have h1 := HB.out.trans (HW.out.mono HB.out.size)
  exact h1.trans (ht6.below h1.size (fun k hk => by omega))
end Go.Proofs.Ytblnfkhaicjeaaa.Sav
namespace Go.Proofs.Ytblnfkhaicjeaaa.Sav
open Go.RowKit Go.Sort Go.Proofs.Ytblnfkhaicjeaaa.Gm Go.Proofs.Ytblnfkhaicjeaaa.RingE
set_option linter.all false
set_option maxRecDepth 100000 in
set_option maxHeartbeats 1000000 in
theorem sums_any (w : World) (g : Nat) :
    Calls Try.prog 123 #[.pointer (some ⟨g, 0, none⟩)] w fun e w' => e = .returned (.func (.func 138) #[] #[.pointer (some ⟨w.heap.size, 0, none⟩)]) ∧ w.alloc (.cells #[.pointer (some ⟨g, 0, none⟩)] 69) = w' := by
  have hmf : ∀ (fn : Fn) (first cap : Array Value) (w : World), (Instr.makeFunc fn first cap).run Try.prog w = .ok (.func fn first cap) w := fun _ _ _ _ => rfl
  go_enter Try.func123, Try.ntmps123
  go_wp2
  go_ret
  exact ⟨rfl, rfl⟩
end Go.Proofs.Ytblnfkhaicjeaaa.Sav
namespace Go.Proofs.Ytblnfkhaicjeaaa.Sav
open Go.RowKit Go.Sort Go.Proofs.Ytblnfkhaicjeaaa.Gm Go.Proofs.Ytblnfkhaicjeaaa.RingE
set_option linter.all false
/-- The reference's states as a value. -/
def refV (room first : Int) (a : Option Addr) (len cap : Nat) : Value := .agg #[.int .i64 room, .int .i64 first, .slice a len cap]
set_option maxRecDepth 100000 in
set_option maxHeartbeats 1000000 in
theorem rnext_any (w : World) (room first : Int) (a : Option Addr) (len cap : Nat) (h0 : 0 ≤ first) (h1 : first + len ≤ 4611686018427387904) :
    Calls Try.prog 83 #[refV room first a len cap] w fun e w' => e = .returned (.int .i64 (first + len)) ∧ Below w.heap.size w w' := by
  unfold refV
  go_enter Try.func83, Try.ntmps83
  go_wp2_with fail
  go_ret
  refine ⟨rfl, ?_⟩
  exact (Below.refl _ w).alloc (Nat.le_refl _) _
/-- The error's number of a frame. -/
def ratE (first : Int) (len : Nat) (n : Int) : Int := if n < first then 90 else if first + len ≤ n then 91 else 0
set_option maxRecDepth 100000 in
set_option maxHeartbeats 1000000 in
theorem rat_any (w : World) (room first n : Int) (a : Option Addr) (len cap : Nat) (h0 : 0 ≤ first) (h1 : first + len ≤ 4611686018427387904) :
    Calls Try.prog 38 #[refV room first a len cap, .int .i64 n] w fun e w' => e = .returned (.int .i64 (ratE first len n)) ∧ Below w.heap.size w w' := by
  have p := Lib.hid (fun W => rnext_any W room first a len cap h0 h1)
  have hB : Below w.heap.size w (w.alloc (.cells #[.int .i64 room, .int .i64 first, .slice a len cap] 71)) := (Below.refl _ w).alloc (Nat.le_refl _) _
  have HB := Lib.hid hB
  clear hB
  unfold refV at *
  by_cases b0 : n < first
  · have E := Lib.hid (show ratE first len n = 90 by simp [ratE, b0])
    go_enter Try.func38, Try.ntmps38
    go_wp2_with fail
    go_ret
    exact ⟨ret_int E.out.symm, HB.out⟩
  · by_cases b1 : first + (len : Int) ≤ n
    · have E := Lib.hid (show ratE first len n = 91 by simp [ratE, b0, b1])
      go_enter Try.func38, Try.ntmps38
      go_wp2_with fail
      refine (p.out _).mono ?_
      rintro e w2 ⟨rfl, hb⟩
      have HB2 := Lib.hid (HB.out.trans (hb.mono HB.out.size))
      clear hb
      go_wp2_with fail
      go_ret
      exact ⟨ret_int E.out.symm, HB2.out⟩
    · have E := Lib.hid (show ratE first len n = 0 by simp [ratE, b0, b1])
      go_enter Try.func38, Try.ntmps38
      go_wp2_with fail
      refine (p.out _).mono ?_
      rintro e w2 ⟨rfl, hb⟩
      have HB2 := Lib.hid (HB.out.trans (hb.mono HB.out.size))
      clear hb
      go_wp2_with fail
      go_ret
      exact ⟨ret_int E.out.symm, HB2.out⟩
end Go.Proofs.Ytblnfkhaicjeaaa.Sav
