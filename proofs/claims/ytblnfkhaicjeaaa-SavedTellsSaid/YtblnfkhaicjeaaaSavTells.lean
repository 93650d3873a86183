/-
  backstaylaw24.SavedTells: it says yes to whatever room, calls and frame. Condition: the calls lie in memory.
-/
import Derived.Test.YtblnfkhaicjeaaaSavY
namespace Go.Proofs.Ytblnfkhaicjeaaa.Sav
open Go.RowKit Go.Sort Go.Proofs.Ytblnfkhaicjeaaa.Gm Go.Proofs.Ytblnfkhaicjeaaa.RingE
set_option linter.all false
theorem loadR33 (w : World) (g o : Nat) : loadR Try.prog 33 (.pointer (some ⟨g, o, none⟩)) w = loadI w (loadR0 Try.prog 33 (.pointer (some ⟨g, o, none⟩)) w) (rowIn w g o 66) :=
  loadR_mid w g o _ Try.underlying33 rfl infoSt
theorem built_0 : Try.prog.built 33 [] = some (stA zF) := by
  show _ = _
  kernel_rfl
def bd0 (P : Program) (w : World) : Result Next := (Sem.run P (Instr.build 33 #[]) w).andThen fun u w' => .ok (.value u) w'
theorem exec_bd0 (ev : Operand → Value) (dst : Option Tmp) (ty : TypeId) (pos : String) (after : Array Edge) (guard : Option (Nat × Bool)) (w : World) :
    (execOp ev { dst := dst, op := Op.build 33 #[], type := ty, pos := pos, after := after, guard := guard }).run Try.prog w = bd0 Try.prog w := by
  unfold execOp bd0
  simp only [Sem.run_bind, Sem.run_pure, List.map_toArray, List.map_nil]
theorem bd0_at (w : World) {C : Array Value} (LC : Let C zF) : bd0 Try.prog w = .ok (.value (.agg C)) w := by
  unfold bd0
  rw [run_build w _ _ _ built_0, ← LC.eq]
  rfl
attribute [local go_sem ↓] exec33 exec_bd0
attribute [local go_sem] loadR33 loadI_some rowIn_drew Array.toArray_toList
theorem rowIn_regrown {w : World} {g o n : Nat} {L : List Value} (h : rowIn w g o n = some L) (d : Nat) (os : Array Obj) : rowIn (grow (redrawn w d) os) g o n = some L := by
  obtain ⟨h1, h2⟩ := of_rowIn h
  exact rowIn_of (fun j v hj => cell_regrown (h1 j v hj) d os) h2
theorem tag_fst' (f : F) : (tag f).1 = f := by dsimp only [tag]
theorem tag_snd' (f : F) : (tag f).2 = sumL (stB f) := by dsimp only [tag]
theorem at_some {first : Int} {fs : List F} {n : Int} (h : atE first (fs.map tag).length n = 0) : ∃ i : Nat, n = first + (i : Int) ∧ ∃ hi : i < fs.length, atX first (fs.map tag) n = tag fs[i] := by
  unfold atE at h
  rw [List.length_map] at h
  have h1 : ¬ n < first := fun c => by rw [if_pos c] at h; omega
  rw [if_neg h1] at h
  have h2 : ¬ n - first ≥ (fs.length : Int) := fun c => by rw [if_pos c] at h; omega
  refine ⟨(n - first).toNat, by omega, by omega, ?_⟩
  unfold atX
  rw [if_neg h1, List.getD_eq_getElem?_getD, List.getElem?_map, List.getElem?_eq_getElem (by omega), Option.map_some, Option.getD_some]
theorem at_none {first : Int} {l : List NT} {n : Int} (h : atE first l.length n ≠ 0) : atX first l n = none0 := by
  unfold atX
  by_cases h1 : n < first
  · rw [if_pos h1]
  · rw [if_neg h1]
    unfold atE at h
    rw [if_neg h1] at h
    by_cases h2 : n - first ≥ (l.length : Int)
    · rw [List.getD_eq_getElem?_getD, List.getElem?_eq_none (by omega)]
      rfl
    · rw [if_neg h2] at h
      exact absurd rfl h

set_option maxRecDepth 100000 in
set_option maxHeartbeats 8000000 in
theorem tells_law (w : World) (room n : Int) (oa : Option Addr) (ocap : Nat) (os : List OpT) (h : OpRow w oa os) (hc : os.length ≤ ocap) (hm : ocap ≤ maxLen) (hn : -9223372036854775808 ≤ n ∧ n ≤ 9223372036854775807) :
    Calls Try.prog 10 #[.int .i64 room, .slice oa os.length ocap, .int .i64 n] w fun e w' => e = .returned (.bool true) ∧ Below w.heap.size w w' := by
  have pA := Lib.hid (awake_any w)
  go_enter Try.func10, Try.ntmps10
  go_wp2_with fail
  refine pA.out.mono ?_
  rintro e w1 ⟨rfl, hb1⟩
  have pP := Lib.hid (played_any w1 room oa os ocap (h.below hb1) hc hm)
  have HB1 := Lib.hid hb1
  clear pA hb1
  go_wp2_with fail
  refine pP.out.mono ?_
  rintro e w2 (⟨hr, rfl, hb2⟩ | ⟨hr, g, r, sv, first, fs, a, c, rfl, hS, hR, hfc, hcm, hI, hb2⟩)
  · unfold refV
    have HB2 := Lib.hid (HB1.out.trans (hb2.mono HB1.out.size))
    clear hb2 pP
    go_wp2_with fail
    go_ret
    exact ⟨rfl, HB2.out.trans ((Below.refl _ w2).alloc HB2.out.size _)⟩
  · unfold refV
    obtain ⟨W3, hW3⟩ : ∃ W3, W3 = w2.alloc (.cells #[.int .i64 room, .int .i64 first, .slice a fs.length c] 71) := ⟨_, rfl⟩
    have hb3 : Below w2.heap.size w2 W3 := by rw [hW3]; exact (Below.refl _ w2).alloc (Nat.le_refl _) _
    have hN3 : Blk W3 w2.heap.size 71 #[.int .i64 room, .int .i64 first, .slice a fs.length c] := by rw [hW3]; exact Blk.new _ _ _
    obtain ⟨nb, hnb⟩ : ∃ nb, w2.heap.size = nb := ⟨_, rfl⟩
    have hS3 := hS.below hb3
    have hR3 := hR.below hb3
    have hB3 := (HB1.out.trans (hb2.mono HB1.out.size)).trans (hb3.mono (HB1.out.trans (hb2.mono HB1.out.size)).size)
    have hpos := hI.pos
    have htop := hI.top
    have hll : (fs.map tag).length = fs.length := by simp
    obtain ⟨ev, hev1⟩ : ∃ ev, atE first (fs.map tag).length n = ev := ⟨_, rfl⟩
    obtain ⟨sm, hsm⟩ : ∃ sm, (atX first (fs.map tag) n).2 = sm := ⟨_, rfl⟩
    have pAt' := sat_any W3 g r room first n sv (fs.map tag) hS3 hpos hn.2
    rw [hev1] at pAt'
    have pAt := Lib.hid pAt'
    clear pAt'
    have HS3 := Lib.hid hS3
    have HR3 := Lib.hid hR3
    have HB3 := Lib.hid hB3
    rw [hnb] at hN3
    have HN3 := Lib.hid hN3
    have hnl : nb < W3.heap.size := hN3.lt
    clear hb2 hb3 pP hS hR hI hS3 hR3 hB3 hN3
    go_upto_region 4 with fail
    rw [← hW3]
    try simp only [hnb]
    clear hW3 hnb
    go_wp2_with fail
    refine pAt.out.mono ?_
    rintro e w4 ⟨C, LC, rfl, hb4⟩
    obtain ⟨W5, hrun5, hX5', hb5, hz5⟩ := alloc_store w4 LC
    have hX5 := LC.blk hX5'
    have hb45 := hb4.trans (hb5.mono hb4.size)
    have pSu' := sum_any W5 g r room first n sv (fs.map tag) (HS3.out.below hb45) hpos hn.2
    rw [hev1, hsm] at pSu'
    have pSu := Lib.hid pSu'
    clear pSu'
    have HB5 := Lib.hid (HB3.out.trans (hb45.mono HB3.out.size))
    have HN5 := Lib.hid (HN3.out.below hb45 hnl)
    have HR5 := Lib.hid (HR3.out.below hb45)
    have HX5 := Lib.hid hX5
    have hcs := LC.size
    have hz66' := hz66
    have HLC := Lib.hid LC
    have hz45 := hb45.size
    have hev := rat_at first fs.length n
    rw [← hll] at hev
    have HEV := Lib.hid hev1
    have HSM := Lib.hid hsm
    have HEQ := Lib.hid (show ratE first fs.length n = ev by rw [← hev1, ← hev, hll])
    have pRa' := fun W => rat_any W room first n a fs.length c hpos (by omega)
    rw [HEQ.out] at pRa'
    unfold refV at pRa'
    have pRa := Lib.hid pRa'
    have hE0 : (ev != ev) = false := by simp
    clear hX5' hb4 hb5 hb45 hX5 LC hev pAt pRa'
    go_upto_region 7 with fail
    obtain ⟨xb, hxb⟩ : ∃ xb, w4.heap.size = xb := ⟨_, rfl⟩
    rw [hxb] at HX5 hz5
    simp only [hxb]
    clear hrun5 hxb hev1 hsm
    go_wp2_with fail
    refine pSu.out.mono ?_
    rintro e w6 ⟨rfl, hb6⟩
    have hN6 := HN5.out.below hb6 (by omega)
    have a0 : w6.cell? ⟨nb, 0, none⟩ = some (.int .i64 room) := hN6.cell 0
    have a1 : w6.cell? ⟨nb, 1, none⟩ = some (.int .i64 first) := hN6.cell 1
    have a2 : w6.cell? ⟨nb, 2, none⟩ = some (.slice a fs.length c) := hN6.cell 2
    have HB6 := Lib.hid (HB5.out.trans (hb6.mono HB5.out.size))
    have HX6 := Lib.hid (HX5.out.below hb6 HX5.out.lt)
    have HR6 := Lib.hid (HR5.out.below hb6)
    have HN6 := Lib.hid hN6
    have hz6 := hb6.size
    have hxl6 := HX6.out.lt
    clear hb6 hN6 pSu
    go_wp2_with fail
    refine (pRa.out w6).mono ?_
    rintro e w7 ⟨rfl, hb7⟩
    have hN7 := HN6.out.below hb7 (by omega)
    have HB7 := Lib.hid (HB6.out.trans (hb7.mono HB6.out.size))
    have HX7 := Lib.hid (HX6.out.below hb7 HX6.out.lt)
    have HR7 := Lib.hid (HR6.out.below hb7)
    have HN7 := Lib.hid hN7
    have hrx := rowIn_of (w := w7) (g := xb) (o := 0) (n := 66) (L := C.toList) (fun j v hj => by rw [Nat.zero_add]; exact (HX7.out.cell j).trans (by rw [← Array.getElem?_toList]; exact hj)) (by rw [Array.length_toList]; exact hcs)
    clear hb7 hN7 pRa a0 a1 a2
    by_cases c1 : ev = 0
    · have d1 : (ev != 0) = false := by simpa using c1
      obtain ⟨i, hi, hil, hx⟩ := at_some (first := first) (fs := fs) (n := n) (by rw [HEV.out]; exact c1)
      have LC1 : Let C fs[i] := (congrArg Prod.fst hx).trans (tag_fst' _) ▸ HLC.out
      have hs1 : sumL (stB fs[i]) = sm := (tag_snd' _).symm.trans ((congrArg Prod.snd hx).symm.trans HSM.out)
      have hwf : Wf fs[i] := HR7.out.1 _ (List.getElem_mem hil)
      have cS := regrown w7 (fun W hb => rfsum_any W room first a fs c i (HR7.out.below hb) hil hfc hcm hpos (by omega))
      rw [hs1, ← hi] at cS
      unfold refV at cS
      obtain ⟨b, off, rfl, hbl, hrow⟩ := HR7.out.2 (by omega)
      have hr1 := hrow i fs[i] (List.getElem?_eq_getElem hil)
      have hEq : ∀ W, (Op.equalIn 10000 33 (.agg C) (.agg C)).run Try.prog W = .ok true W := fun W => by rw [LC1.eq]; exact st_same W hwf hwf rfl
      rw [← LC1.eq] at hr1
      have hrr : ∀ (d : Nat) (os : Array Obj), rowIn (grow (redrawn w7 d) os) b (off + i * 66) 66 = some C.toList := rowIn_regrown (rowIn_of hr1 (by rw [Array.length_toList]; exact hcs))
      have hrx' := rowIn_regrown hrx
      have q0 := cell_regrown (HN7.out.cell 0)
      have q1 := cell_regrown (HN7.out.cell 1)
      have q2 := cell_regrown (HN7.out.cell 2)
      have hw1 : IntKind.i64.wrap (n - first) = (i : Int) := (congrArg IntKind.i64.wrap (show n - first = (i : Int) by omega)).trans (IntWalk.i64_in _ (by omega))
      have hi0 : (0 : Int) ≤ (i : Int) := by omega
      have hi1 : (i : Int) < (fs.length : Int) := by omega
      clear c1 hx LC1 hs1 hwf hrow hr1 hi hrx
      go_upto_region 13 with fail
      refine wp_region_quiet_below (by kernel_rfl) (by kernel_rfl) ?_
      repeat (quiet_step (first | exact cS _ _))
      refine wpQuiet_nil ?_
      intro W8 hw'
      obtain ⟨⟨dq, osq⟩, hw''⟩ := hw'
      have hb8 : Below w7.heap.size w7 W8 := by rw [hw'']; exact below_regrown _ _ _
      have HB8 := Lib.hid (HB7.out.trans (hb8.mono HB7.out.size))
      clear hw'' cS q0 q1 q2 hrr hrx' hb8
      go_wp2_with fail
      go_ret
      exact ⟨rfl, HB8.out⟩
    · have d1 : (ev != 0) = true := by simpa using c1
      have hx0 := at_none (first := first) (l := fs.map tag) (n := n) (by rw [HEV.out]; exact c1)
      have hs0 : sm = 0 := by rw [← HSM.out, hx0]; rfl
      have LC0 : Let C zF := by
        have := HLC.out
        rw [hx0] at this
        exact this
      have hbd0 : ∀ W, bd0 Try.prog W = .ok (.value (.agg C)) W := fun W => bd0_at W LC0
      have hWz : Wf zF := ⟨fun j hj => by simp [zF], by simp [zF]⟩
      have hEq : ∀ W, (Op.equalIn 10000 33 (.agg C) (.agg C)).run Try.prog W = .ok true W := fun W => by rw [LC0.eq]; exact st_same W hWz hWz rfl
      subst hs0
      clear c1 hx0 LC0
      go_wp2_with fail
      go_ret
      exact ⟨rfl, HB7.out⟩
end Go.Proofs.Ytblnfkhaicjeaaa.Sav
