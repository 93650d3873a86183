/-
  backstaylaw29.NetPlays, NetStrange: they say yes to every script. Conditions: the script lies in memory.
-/
import Derived.Test.YtmceaffoffemlaaNetPa
namespace Go.Proofs.Ytmceaffoffemlaa.Netw
open Go.RowKit Go.Shelf
set_option linter.all false
attribute [local go_sem] Oper.semAt_some

set_option maxRecDepth 100000 in
set_option maxHeartbeats 2000000 in
theorem plays_law (w : World) (x : Option Addr) (n0 cap : Nat) (ops : List OpR) (hS : Scr w x n0 ops) (hn0 : n0 ≤ maxLen) :
    Calls Try.prog 8 #[.slice x n0 cap] w fun e w' => e = .returned (.bool true) ∧ Below w.heap.size w w' := by
  have pA := Lib.hid (awake_any w)
  have HS := Lib.hid hS
  clear hS
  go_enter Try.func8, Try.ntmps8
  go_wp2_with fail
  refine pA.out.mono ?_
  rintro e w1 ⟨rfl, hb1⟩
  have pP := Lib.hid (played_any w1 x n0 cap ops (HS.out.below hb1) hn0)
  have HB1 := Lib.hid hb1
  clear hb1 pA
  go_wp2_with fail
  refine pP.out.mono ?_
  rintro e w2 ⟨n, s, m, a, l, c, rfl, hP, hm, hb2⟩
  have HB2 := Lib.hid (HB1.out.trans (hb2.mono HB1.out.size))
  unfold dnv nc
  clear hP hm hb2 pP
  go_wp2_with fail
  go_ret
  exact ⟨rfl, HB2.out.trans ((Below.refl _ w2).alloc (by have := HB2.out.size; omega) _)⟩
set_option maxRecDepth 100000 in
set_option maxHeartbeats 4000000 in
theorem strange_law (w : World) (x : Option Addr) (n0 cap : Nat) (ops : List OpR) (d b : Int) (hS : Scr w x n0 ops) (hn0 : n0 ≤ maxLen) :
    Calls Try.prog 9 #[.slice x n0 cap, .int .i64 d, .int .i64 b] w fun e w' => e = .returned (.bool true) ∧ Below w.heap.size w w' := by
  refine calls_of_wp_marks 9 Try.func9 rfl ?_
  simp only [Try.ntmps9, List.size_toArray, List.length_cons, List.length_nil, Nat.reduceAdd, Nat.reduceSub, Array.replicate_succ, Array.replicate_zero, List.push_toArray, List.append_toArray, List.nil_append, List.cons_append]
  have hnf : ∀ (f : FuncId) (cs : Array Value) (W : World), Sem.run Try.prog (binOp .eql 76 (.func (.func f) #[] cs) .nilFunc) W = .ok (.bool false) W := by
    intro f cs W
    have h : ∀ d : Nat, Sem.run Try.prog (Op.equalIn (d + 1) 76 (.func (.func f) #[] cs) .nilFunc) W = .ok false W := fun d => by
      simp [Op.equalIn, run_underlying Try.underlying76, go_sem]
    have h' := h (Op.maxDepth - 1)
    simp only [binOp, Op.equal]
    rw [Sem.run_bind]
    erw [h']
    rfl
  have pA := Lib.hid (awake_any (w.alloc (.cells #[.bool false] 4)))
  have HS := Lib.hid hS
  clear hS
  go_wp2_with fail
  refine pA.out.mono ?_
  rintro e w1 ⟨rfl, hb1⟩
  have hb0 : Below w.heap.size w w1 := ((Below.refl _ w).alloc (Nat.le_refl _) _).trans (hb1.mono (by simp))
  have hr1 : Blk w1 w.heap.size 4 #[.bool false] := Blk.below (Blk.new w _ _) hb1 (by simp)
  have pP := Lib.hid (played_any w1 x n0 cap ops (HS.out.below hb0) hn0)
  have HB1 := Lib.hid hb0
  have HR1 := Lib.hid hr1
  clear hb1 pA hb0 hr1
  go_wp2_with fail
  refine pP.out.mono ?_
  rintro e w2 ⟨n, s, m, a, l, c, rfl, hP, hm, hb2⟩
  unfold dnv nc
  have hbw := HB1.out.trans (hb2.mono HB1.out.size)
  have hr2 := HR1.out.below hb2 HR1.out.lt
  have HPN := Lib.hid hP
  have HBW := Lib.hid hbw
  have HR2 := Lib.hid hr2
  have r0 : w2.cell? ⟨w.heap.size, 0, none⟩ = some (.bool false) := hr2.cell 0
  have fr := hr2.frozen 0
  have hlt := hr2.lt
  have hnl := hP.net.box.lt
  clear hP hm hb2 pP hbw hr2
  obtain ⟨ov, hov⟩ : ∃ ov : Array Value, ov = #[.slice (a 0) (l 0) (c 0), .slice (a 1) (l 1) (c 1), .slice (a 2) (l 2) (c 2), .slice (a 3) (l 3) (c 3), .int .i64 m.full, .int .i64 m.long, .int .i64 m.moved] := ⟨_, rfl⟩
  by_cases hw : isWay d b
  · unfold isWay at hw
    obtain ⟨h1, h2, h3, h4⟩ := hw
    have h2' : d ≤ 1 := by omega
    have h4' : b ≤ 1 := by omega
    clear h2 h4
    go_wp2_with fail
    refine ⟨.bool true, ?_, rfl, (HBW.out.setCell (p := ⟨w.heap.size, 0, none⟩) (Nat.le_refl _) _).alloc ?_ _⟩
    · simp [results, Try.f9, go_sem, r0, hlt]
    · have := HBW.out.size
      simpa [World.setCell] using this
  · have hcase := not_way hw
    have hc2 : (d < 0 ∧ ¬ 0 ≤ d) ∨ (0 ≤ d ∧ ¬ d ≤ 1) ∨ (0 ≤ d ∧ d ≤ 1 ∧ ¬ 0 ≤ b) ∨ (0 ≤ d ∧ d ≤ 1 ∧ 0 ≤ b ∧ ¬ b ≤ 1) := by omega
    have HC := Lib.hid hcase
    have pAll := Lib.hid (fun W => all_any W n d b)
    have pLen := Lib.hid (fun W => len_out W n d b hcase)
    have pOld := Lib.hid (fun W => oldest_out W n d b hcase)
    have pAt : ∀ W i, AtNo W n d b i 62 := fun W i => at_out W n d b i hcase
    have pMove := Lib.hid (fun W => move_no W n d b 0 62 (pAt W 0) (by decide))
    have pSend := Lib.hid (fun W => send_out W n d b none 0 0 hcase)
    have pDrop := Lib.hid (fun W => drop_no W n d b 0 62 (pAt W 0) (by decide))
    have pDbl := Lib.hid (fun W => double_no W n d b 0 62 (pAt W 0) (by decide))
    have pSpl := Lib.hid (fun W => spoil_no W n d b 0 1 62 (pAt W (-1)) (by decide))
    clear hcase hw pAt
    rcases hc2 with ⟨q1, q2⟩ | ⟨q1, q2⟩ | ⟨q1, q2, q3⟩ | ⟨q1, q2, q3, q4⟩
    all_goals
      go_wp2_with fail
      refine (pAll.out _).mono ?_
      rintro e w' ⟨rfl, rfl⟩
      obtain ⟨V, hV⟩ : ∃ V, V = w2.alloc (.cells ov 71) := ⟨_, rfl⟩
      have hBV : Below w2.heap.size w2 V := by rw [hV]; exact (Below.refl _ w2).alloc (Nat.le_refl _) _
      have hzV : V.heap.size = w2.heap.size + 1 := by rw [hV]; simp
      rw [hov] at hV
      rw [← hV]
      obtain ⟨W, hW⟩ : ∃ W, W = (((V.alloc (.cells #[.pointer (some ⟨n, 0, none⟩)] 25)).alloc (.cells #[.int .i64 d] 3)).alloc (.cells #[.int .i64 b] 3)) := ⟨_, rfl⟩
      have hBW : Below V.heap.size V W := by rw [hW]; exact (((Below.refl _ V).alloc (Nat.le_refl _) _).alloc (by simp) _).alloc (by simp; omega) _
      have hzW : W.heap.size = V.heap.size + 3 := by rw [hW]; simp
      have t1 : Blk W V.heap.size 25 #[.pointer (some ⟨n, 0, none⟩)] := by rw [hW]; exact ((Blk.new V _ _).alloc _).alloc _
      have t2 : Blk W (V.heap.size + 1) 3 #[.int .i64 d] := by
        have := (Blk.new (V.alloc (.cells #[.pointer (some ⟨n, 0, none⟩)] 25)) 3 #[.int .i64 d]).alloc (.cells #[.int .i64 b] 3)
        rw [World.size_alloc] at this; rw [hW]; exact this
      have t3 : Blk W (V.heap.size + 2) 3 #[.int .i64 b] := by
        have := Blk.new ((V.alloc (.cells #[.pointer (some ⟨n, 0, none⟩)] 25)).alloc (.cells #[.int .i64 d] 3)) 3 #[.int .i64 b]
        rw [World.size_alloc, World.size_alloc] at this; rw [hW]; exact this
      rw [← hW]
      have hB2W : Below w2.heap.size w2 W := hBV.trans (hBW.mono (by omega))
      have HB2W := Lib.hid hB2W
      have q6 : w2.heap.size + 4 = W.heap.size := by omega
      have HZ := Lib.hid q6
      have T1 := Lib.hid t1
      have T2 := Lib.hid t2
      have T3 := Lib.hid t3
      have HZV := Lib.hid hzV
      clear hV hBV hzV hW hBW hzW t1 t2 t3 hB2W q6 pAll
      go_wp2_with fail
      refine (pLen.out _).mono ?_
      rintro e w' ⟨rfl, rfl⟩
      go_wp2_with fail
      refine (pOld.out _).mono ?_
      rintro e w5 ⟨rfl, hb5⟩
      have t1 := T1.out.below hb5 T1.out.lt
      have t2 := T2.out.below hb5 T2.out.lt
      have t3 := T3.out.below hb5 T3.out.lt
      have z5 := hb5.size
      have HB5 := Lib.hid (HB2W.out.trans (hb5.mono HB2W.out.size))
      clear hb5 pLen pOld
      go_wp2_with fail
      refine (wpIn_wide (n := 9)).1 ?_
      refine range_none (by have := HC.out; omega) (t1.cell 0) (t2.cell 0) (t3.cell 0) (by have := t1.lt; omega) (by have := t2.lt; omega) (by have := t3.lt; omega) rfl rfl ?_
      rintro D U hD hBU hdf
      have hb6 := HB5.out.trans (hBU.mono HB5.out.size)
      have hr := HR2.out.below hb6 HR2.out.lt
      have r1 : U.cell? ⟨w.heap.size, 0, none⟩ = some (.bool false) := hr.cell 0
      have fr1 := hr.frozen 0
      have HB6 := Lib.hid (HBW.out.trans (hb6.mono HBW.out.size))
      have HDF := Lib.hid hdf
      have hDw : w.heap.size < D := by have := HR2.out.lt; have := HB5.out.size; omega
      have HDW := Lib.hid hDw
      clear t1 t2 t3 hBU hb6 hr hdf z5 hD hDw HB2W HZ T1 T2 T3 HZV HB5 HR2 HBW r0 fr
      go_wp2_with fail
      refine (pMove.out _).mono ?_
      rintro e w' ⟨rfl, rfl⟩
      go_wp2_with fail
      refine (pSend.out _).mono ?_
      rintro e w' ⟨rfl, rfl⟩
      go_wp2_with fail
      refine (pDrop.out _).mono ?_
      rintro e w' ⟨rfl, rfl⟩
      go_wp2_with fail
      refine (pDbl.out _).mono ?_
      rintro e w' ⟨rfl, rfl⟩
      go_wp2_with fail
      refine (pSpl.out _).mono ?_
      rintro e w' ⟨rfl, rfl⟩
      go_wp2_with fail
      have hdf2 : (U.setCell ⟨w.heap.size, 0, none⟩ (.bool true)).heap[D]? = some (Obj.deferred (some [])) := (Below.heap_setCell U ⟨w.heap.size, 0, none⟩ (.bool true) D (by have := HDW.out; show D ≠ w.heap.size; omega)).trans HDF.out
      refine ⟨by simp, .inl ⟨_, _, rfl, run_takeDeferred hdf2, ?_⟩⟩
      have hb7 : Below w.heap.size w ((U.setCell ⟨w.heap.size, 0, none⟩ (.bool true)).putObj D (.deferred none)) := (HB6.out.setCell (p := ⟨w.heap.size, 0, none⟩) (Nat.le_refl _) _).trans (belowB_put (by have := HDW.out; omega) _ _)
      have hc7 : ((U.setCell ⟨w.heap.size, 0, none⟩ (.bool true)).putObj D (.deferred none)).cell? ⟨w.heap.size, 0, none⟩ = some (.bool true) := (World.cell?_of_block (a := ⟨w.heap.size, 0, none⟩) (World.putObj_heap_other (by have := HDW.out; show w.heap.size ≠ D; omega))).trans (World.cell?_setCell_same' _ _ _ (by rw [r1]; rfl))
      refine ⟨.bool true, ?_, rfl, hb7⟩
      simp [results, Try.f9, go_sem, hc7]
end Go.Proofs.Ytmceaffoffemlaa.Netw
