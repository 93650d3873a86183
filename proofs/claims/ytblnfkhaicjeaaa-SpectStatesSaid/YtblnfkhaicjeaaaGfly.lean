/-
  The walk of game.fly.
-/
import Derived.Test.YtblnfkhaicjeaaaGhurt
import Derived.Lib.QuietBelow
namespace Go.Proofs.Ytblnfkhaicjeaaa.Gm
open Go.RowKit Go.Sort Go.Proofs.Ytblnfkhaicjeaaa.Num
set_option linter.all false

/-- A shot's cells. -/
structure ShotAt (w : World) (g o : Nat) (s : Shot) : Prop where
  on : w.cell? ⟨g, o, none⟩ = some (.bool (onB s.on))
  x : w.cell? ⟨g, o + 1, none⟩ = some (.int .i64 s.x)
  y : w.cell? ⟨g, o + 2, none⟩ = some (.int .i64 s.y)
  vx : w.cell? ⟨g, o + 3, none⟩ = some (.int .i64 s.vx)
  ow : w.cell? ⟨g, o + 4, none⟩ = some (.int .i64 s.owner)
  frames : w.cell? ⟨g, o + 5, none⟩ = some (.int .i64 s.frames)
  fr : ∀ j, w.frozen? ⟨g, j, none⟩ = false
theorem SB.shotAt {w : World} {g : Nat} {t : TypeId} {f : F} (h : SB w g t f) {k : Nat} (hk : k < 8) : ShotAt w g (16 + k * 6) (sho f (16 + k * 6)) :=
  ⟨h.on hk, h.shot hk (j := 1) (by omega) (by omega), h.shot hk (j := 2) (by omega) (by omega), h.shot hk (j := 3) (by omega) (by omega), h.shot hk (j := 4) (by omega) (by omega), h.shot hk (j := 5) (by omega) (by omega), fun j => h.fr j⟩
def SS (w : World) (g : Nat) (t : TypeId) (f : F) (k : Nat) (s : Shot) : Prop := SB w g t (setS f (16 + k * 6) s)
theorem setS_same (f : F) (o : Nat) : setS f o (sho f o) = f := by
  funext k
  unfold setS sho put
  (repeat' split) <;> (first | rfl | (subst_vars; rfl))
theorem setS_setS (f : F) (o : Nat) (s s2 : Shot) : setS (setS f o s) o s2 = setS f o s2 := by
  funext k
  unfold setS put
  (repeat' split) <;> (first | rfl | omega)
section
variable {w w' : World} {g : Nat} {t : TypeId} {f : F} {k : Nat} {s : Shot}
theorem SS.of (h : SB w g t f) (k : Nat) : SS w g t f k (sho f (16 + k * 6)) := by unfold SS; rw [setS_same]; exact h
theorem SS.cells (h : SS w g t f k s) (hk : k < 8) : ShotAt w g (16 + k * 6) s := by
  have := SB.shotAt h hk
  rwa [setS_sho] at this
theorem SS.drew (h : SS w g t f k s) : SS w.drew g t f k s := h
theorem SS.x (h : SS w g t f k s) (hk : k < 8) (v : Int) : SS (w.setCell ⟨g, 16 + k * 6 + 1, none⟩ (.int .i64 v)) g t f k { s with x := v } := by
  have := SB.setInt h (j := 16 + k * 6 + 1) (by omega) (by omega) (by omega) v
  unfold SS
  have e : put (setS f (16 + k * 6) s) (16 + k * 6 + 1) v = setS f (16 + k * 6) { s with x := v } := by
    funext k; unfold setS put; (repeat' split) <;> (first | rfl | omega)
  rwa [e] at this
theorem SS.frames (h : SS w g t f k s) (hk : k < 8) (v : Int) : SS (w.setCell ⟨g, 16 + k * 6 + 5, none⟩ (.int .i64 v)) g t f k { s with frames := v } := by
  have := SB.setInt h (j := 16 + k * 6 + 5) (by omega) (by omega) (by omega) v
  unfold SS
  have e : put (setS f (16 + k * 6) s) (16 + k * 6 + 5) v = setS f (16 + k * 6) { s with frames := v } := by
    funext k; unfold setS put; (repeat' split) <;> (first | rfl | omega)
  rwa [e] at this
theorem SS.shot (h : SS w g t f k s) (hk : k < 8) (s2 : Shot) : SB (w.setCells g (16 + k * 6) (shoL s2)) g t (setS f (16 + k * 6) s2) := by
  have := SB.setShot h hk s2
  rwa [setS_setS] at this
end
/-- A contract that leaves what lay, in a world of the class. -/
theorem regrown {P : Program} {f : FuncId} {args : Array Value} {v : Value} (w : World)
    (h : ∀ W, Below w.heap.size w W → Calls P f args W fun e W' => e = .returned v ∧ Below W.heap.size W W') (d : Nat) (os : Array Obj) :
    Calls P f args (grow (redrawn w d) os) fun e w'' => e = .returned v ∧ ∃ p : Regrown, w'' = grow (redrawn w p.d) p.os := Calls.regrown_of (h _ (below_regrown w d os))

/-- Both players' buttons. -/
def inV (n : Nat → Nat) : Value := .agg #[.int .u16 (n 0), .int .u16 (n 1)]

set_option maxRecDepth 100000 in
set_option maxHeartbeats 8000000 in
theorem fly_any (w : World) (g : Nat) (t : TypeId) (f : F) (fr sc : Int) (k : Nat) (n : Nat → Nat) (hk : k < 8) (hn : ∀ i, i < 2 → n i < 65536) (hS : SB w g t f) (hI : Inv fr sc f) (hsc : sc ≤ 4611686018427387904) (hon : f (16 + k * 6) ≠ 0) :
    Calls Try.prog 65 #[.pointer (some ⟨g, 0, none⟩), .int .i64 k, inV n] w fun e w' => e = .returned (.tuple #[]) ∧ SB w' g t (flyF f k n) ∧ TG g w w' := by
  obtain ⟨s0, hs0⟩ : ∃ s, s = sho f (16 + k * 6) := ⟨_, rfl⟩
  have hin : ShotIn s0 := by rw [hs0]; exact (hI.s k hk).resolve_left fun e => hon (congrArg Shot.on e)
  have x0 := hin.x0
  have x1 := hin.x1
  have vx : -393216 ≤ s0.vx ∧ s0.vx ≤ 393216 := by rcases hin.vx with e | e <;> omega
  have r0 := hin.f0
  have r1 := hin.f1
  have y0 := hin.y0
  have y1 := hin.y1
  have HF := Lib.hid (show flyF f k n = if goneV (flown (sho f (16 + k * 6))) then setS f (16 + k * 6) zeroS
    else if hitsV (flown (sho f (16 + k * 6))) (bod f (2 + whoV (flown (sho f (16 + k * 6))) * 7)) then hurtF (setS f (16 + k * 6) zeroS) (whoV (flown (sho f (16 + k * 6)))) (n (whoV (flown (sho f (16 + k * 6)))))
    else setS f (16 + k * 6) (flown (sho f (16 + k * 6))) from rfl)
  rw [← hs0] at HF
  have hh := hold_bd (s0.x + s0.vx)
  have HFL := Lib.hid (show flown s0 = { s0 with x := hold (s0.x + s0.vx), frames := s0.frames - 1 } from rfl)
  have hwl := whoV_lt (flown s0)
  obtain ⟨oz, hoz⟩ : ∃ oz, bits BinOp.and .i64 s0.owner 1 = oz := ⟨_, rfl⟩
  have how : 1 - oz = (whoV (flown s0) : Int) := by
    rw [← hoz]
    show 1 - bits BinOp.and .i64 s0.owner 1 = ((if s0.owner % 2 = 0 then 1 else 0 : Nat) : Int)
    rcases hin.ow with e | e
    · rw [e]; decide +kernel
    · rw [e]; decide +kernel
  have H0 : SS w g t f k s0 := by rw [hs0]; exact SS.of hS k
  have hz := hI.setS hk (.inl rfl : ShotOk zeroS)
  obtain ⟨who, hwho⟩ : ∃ who, whoV (flown s0) = who := ⟨_, rfl⟩
  rw [hwho] at HF hwl how
  have hbk := hI.b who hwl
  have hz2 := hz.b who hwl
  have hzs0 := hz.seed0
  have hzs1 := hz.seed1
  have hzq : 0 ≤ (setS f (16 + k * 6) zeroS) (64 + (1 - who)) ∧ (setS f (16 + k * 6) zeroS) (64 + (1 - who)) ≤ sc := by
    have : 1 - who = 0 ∨ 1 - who = 1 := by omega
    rcases this with e | e <;> rw [e]
    · exact ⟨hz.p0, hz.p1⟩
    · exact ⟨hz.q0, hz.q1⟩
  have pHurt := Lib.hid (fun W (hW : SB W g t (setS f (16 + k * 6) zeroS)) => hurt_any W g t (setS f (16 + k * 6) zeroS) who (n who) hwl (hn who hwl) hW hz2 hzs0 hzs1 hzq.1 (by omega))
  have pHits := Lib.hid (fun W (s : Shot) (a1 : -9223372036854775808 ≤ s.x) (a2 : s.x ≤ 9223372036854775807) (a3 : -9223372036854775808 ≤ s.y) (a4 : s.y ≤ 9223372036854775807) => hits_any W s (bod f (2 + who * 7)) a1 a2 a3 a4 hbk)
  have HK := Lib.hid hk
  have HW := Lib.hid hwl
  have k1 : (0 : Int) ≤ (k : Int) := by omega
  have k2 : (k : Int) < 8 := by omega
  have w1 : (0 : Int) ≤ (who : Int) := by omega
  have w2 : (who : Int) < 2 := by omega
  -- the box
  obtain ⟨W1, hW1⟩ : ∃ W1, W1 = w.alloc (.cells #[.int .u16 (n 0), .int .u16 (n 1)] 48) := ⟨_, rfl⟩
  have hbx : Blk W1 w.heap.size 48 #[.int .u16 (n 0), .int .u16 (n 1)] := by rw [hW1]; exact Blk.new _ _ _
  have H1 : SS W1 g t f k s0 := by rw [hW1]; exact SB.alloc H0 _
  have T1 : TG g w W1 := by rw [hW1]; exact (Touch.refl _ w).alloc _
  have hgx : g ≠ w.heap.size := by have := hS.lt; omega
  have cbx : ∀ W, Blk W w.heap.size 48 #[.int .u16 (n 0), .int .u16 (n 1)] → W.cell? ⟨w.heap.size, who, none⟩ = some (.int .u16 (n who)) := by
    intro W hW
    have := hW.cell who
    rw [this]
    have e : who = 0 ∨ who = 1 := by omega
    rcases e with rfl | rfl <;> rfl
  have CBX := Lib.hid cbx
  clear hS hI hon hk hn hin hs0 H0 hz hbk hz2 hzs0 hzs1 hzq hwho hwl cbx hsc
  unfold inV
  obtain ⟨con, cx, -, cv, -, cfr, ffr⟩ := H1.cells HK.out
  have f1 := ffr (16 + k * 6 + 1)
  have pA := Lib.hid (fun W => (wadd_any W s0.x s0.vx (by omega) (by omega) (by omega) (by omega)).mono (R' := fun e w'' => e = .returned (.int .i64 (hold (s0.x + s0.vx))) ∧ w'' = W) (fun _ _ h => ⟨h.1, h.2.symm⟩))
  generalize hold (s0.x + s0.vx) = xv at *
  go_enter Try.func65, Try.ntmps65
  go_upto_region 1 with fail
  rw [← hW1]
  clear hW1
  go_upto_region 2 with fail
  refine wp_region_still_tail 12 (by kernel_rfl) (by kernel_rfl) ?_
  simp only [List.take_succ_cons, List.take_zero, List.drop_succ_cons, List.drop_zero]
  iterate 9 still_step
  still_call (pA.out _)
  iterate 2 still_step
  refine wpStill_nil ?_
  change wpList _ _ _ _ _ (World.drew _)
  have H2 := (H1.x HK.out xv).drew
  have T2 := (TG.set T1 (16 + k * 6 + 1) (.int .i64 xv)).drew
  have hbx2 := (hbx.far (p := ⟨g, 16 + k * 6 + 1, none⟩) (fun e => hgx e.symm) (.int .i64 xv)).drew
  clear con cv pA H1 T1 hbx
  go_upto_region 3 with fail
  clear cx f1 cfr ffr
  generalize (W1.setCell ⟨g, 16 + k * 6 + 1, none⟩ (.int .i64 xv)).drew = W2 at *
  obtain ⟨con, cx, -, cv, cow, cfr, ffr⟩ := H2.cells HK.out
  have f5 := ffr (16 + k * 6 + 5)
  have H3 := H2.frames HK.out (s0.frames - 1)
  have T3 := TG.set T2 (16 + k * 6 + 5) (.int .i64 (s0.frames - 1))
  have hbx3 := hbx2.far (p := ⟨g, 16 + k * 6 + 5, none⟩) (fun e => hgx e.symm) (.int .i64 (s0.frames - 1))
  clear H2 T2 hbx2 ffr
  go_upto_region 4 with fail
  clear con cx cv cow cfr f5
  generalize W2.setCell ⟨g, 16 + k * 6 + 5, none⟩ (.int .i64 (s0.frames - 1)) = W3 at *
  have HFL2 := HFL.out
  have H3' : SS W3 g t f k (flown s0) := by rw [HFL2]; exact H3
  clear H3 HFL2
  have hsx : (flown s0).x = xv := by rw [HFL.out]
  have hsf : (flown s0).frames = s0.frames - 1 := by rw [HFL.out]
  have hso : (flown s0).owner = s0.owner := by rw [HFL.out]
  have hsy : (flown s0).y = s0.y := by rw [HFL.out]
  rw [← hso] at hoz
  have hx2 : -9223372036854775808 ≤ (flown s0).x ∧ (flown s0).x ≤ 9223372036854775807 := by omega
  have hy2 : -9223372036854775808 ≤ (flown s0).y ∧ (flown s0).y ≤ 9223372036854775807 := by omega
  clear hsx hsf hso hsy x0 x1 vx r0 r1 y0 y1 hh HFL
  generalize flown s0 = s at *
  obtain ⟨con, cx, -, -, cow, cfr, -⟩ := H3'.cells HK.out
  by_cases c1 : s.frames ≤ 0
  · have c1' : decide (s.frames ≤ 0) = true := by simpa using c1
    have HF2 := HF.out
    rw [if_pos (show goneV s = true by simp [goneV]; omega)] at HF2
    have HF3 := Lib.hid HF2
    clear HF2 HF
    have ht := SB.there H3' (o := 16 + k * 6) (n := 6) (by have := HK.out; omega)
    have R : SB (W3.setCells g (16 + k * 6) [.bool false, .int .i64 0, .int .i64 0, .int .i64 0, .int .i64 0, .int .i64 0]) g t (setS f (16 + k * 6) zeroS) := H3'.shot HK.out zeroS
    have RT : TG g w (W3.setCells g (16 + k * 6) [.bool false, .int .i64 0, .int .i64 0, .int .i64 0, .int .i64 0, .int .i64 0]) := touch_cells (S := fun k => k = g) T3 g (.inl rfl) _ _
    go_upto_region 5 with fail
    clear con cx cow cfr H3' T3 hbx3
    go_wp2_with (refine wpList_store_mid (by rfl) 29 _ _ (by rfl) g (16 + k * 6) (List.toArray [.bool false, .int .i64 0, .int .i64 0, .int .i64 0, .int .i64 0, .int .i64 0]) (by rfl) (by rfl) ht infoS (by simp [Value.oneCell']) ?_)
    refine bodyPost_ret (results_none rfl _ _ _) rfl ⟨rfl, ?_, RT⟩
    rw [HF3.out]
    exact R
  have c1' : decide (s.frames ≤ 0) = false := by simpa using c1
  by_cases c2 : s.x < 0
  · have c2' : decide (s.x < 0) = true := by simpa using c2
    have HF2 := HF.out
    rw [if_pos (show goneV s = true by simp [goneV]; omega)] at HF2
    have HF3 := Lib.hid HF2
    clear HF2 HF
    have ht := SB.there H3' (o := 16 + k * 6) (n := 6) (by have := HK.out; omega)
    have R : SB (W3.setCells g (16 + k * 6) [.bool false, .int .i64 0, .int .i64 0, .int .i64 0, .int .i64 0, .int .i64 0]) g t (setS f (16 + k * 6) zeroS) := H3'.shot HK.out zeroS
    have RT : TG g w (W3.setCells g (16 + k * 6) [.bool false, .int .i64 0, .int .i64 0, .int .i64 0, .int .i64 0, .int .i64 0]) := touch_cells (S := fun k => k = g) T3 g (.inl rfl) _ _
    go_upto_region 5 with fail
    clear con cx cow cfr H3' T3 hbx3
    go_wp2_with (refine wpList_store_mid (by rfl) 29 _ _ (by rfl) g (16 + k * 6) (List.toArray [.bool false, .int .i64 0, .int .i64 0, .int .i64 0, .int .i64 0, .int .i64 0]) (by rfl) (by rfl) ht infoS (by simp [Value.oneCell']) ?_)
    refine bodyPost_ret (results_none rfl _ _ _) rfl ⟨rfl, ?_, RT⟩
    rw [HF3.out]
    exact R
  have c2' : decide (s.x < 0) = false := by simpa using c2
  by_cases c3 : 13107200 < s.x
  · have c3' : decide (13107200 < s.x) = true := by simpa using c3
    have HF2 := HF.out
    rw [if_pos (show goneV s = true by simp [goneV]; omega)] at HF2
    have HF3 := Lib.hid HF2
    clear HF2 HF
    have ht := SB.there H3' (o := 16 + k * 6) (n := 6) (by have := HK.out; omega)
    have R : SB (W3.setCells g (16 + k * 6) [.bool false, .int .i64 0, .int .i64 0, .int .i64 0, .int .i64 0, .int .i64 0]) g t (setS f (16 + k * 6) zeroS) := H3'.shot HK.out zeroS
    have RT : TG g w (W3.setCells g (16 + k * 6) [.bool false, .int .i64 0, .int .i64 0, .int .i64 0, .int .i64 0, .int .i64 0]) := touch_cells (S := fun k => k = g) T3 g (.inl rfl) _ _
    go_upto_region 5 with fail
    clear con cx cow cfr H3' T3 hbx3
    go_wp2_with (refine wpList_store_mid (by rfl) 29 _ _ (by rfl) g (16 + k * 6) (List.toArray [.bool false, .int .i64 0, .int .i64 0, .int .i64 0, .int .i64 0, .int .i64 0]) (by rfl) (by rfl) ht infoS (by simp [Value.oneCell']) ?_)
    refine bodyPost_ret (results_none rfl _ _ _) rfl ⟨rfl, ?_, RT⟩
    rw [HF3.out]
    exact R
  have c3' : decide (13107200 < s.x) = false := by simpa using c3
  have HF2 := HF.out
  rw [if_neg (show ¬ goneV s = true by simp [goneV]; omega)] at HF2
  have HF3 := Lib.hid HF2
  clear HF2 HF
  go_upto_region 7 with fail
  clear con cx cow cfr c1' c2' c3' c1 c2 c3
  obtain ⟨on0, on1, on2, on3, on4, on5, -⟩ := H3'.cells HK.out
  have hbd := SB.bodyAt H3' HW.out
  have hbe : bod (setS f (16 + k * 6) s) (2 + who * 7) = bod f (2 + who * 7) := bod_congr (fun j h1 h2 => setS_out _ _ _ (by have := HW.out; omega))
  rw [hbe] at hbd
  clear hbe
  have cH := regrown W3 (v := .bool (hitsV s (bod f (2 + who * 7)))) (fun W _ => pHits.out W s hx2.1 hx2.2 hy2.1 hy2.2)
  generalize bod f (2 + who * 7) = b at *
  obtain ⟨b0, b1, b2, b3, b4, b5, b6, -⟩ := hbd
  unfold shoV shoL bodV bodL at cH
  have o0 := cell_regrown on0
  have o1 := cell_regrown on1
  have o2 := cell_regrown on2
  have o3 := cell_regrown on3
  have o4 := cell_regrown on4
  have o5 := cell_regrown on5
  have p0 := cell_regrown b0
  have p1 := cell_regrown b1
  have p2 := cell_regrown b2
  have p3 := cell_regrown b3
  have p4 := cell_regrown b4
  have p5 := cell_regrown b5
  have p6 := cell_regrown b6
  clear on0 on1 on2 on3 on4 on5 b0 b1 b2 b3 b4 b5 b6
  refine wp_region_quiet_below (by kernel_rfl) (by kernel_rfl) ?_
  repeat (quiet_step (exact cH _ _))
  refine wpQuiet_nil ?_
  intro W4 hw'
  obtain ⟨⟨dq, osq⟩, hw''⟩ := hw'
  have hb4 : Below W3.heap.size W3 W4 := by rw [hw'']; exact below_regrown _ _ _
  clear hw'' cH o0 o1 o2 o3 o4 o5 p0 p1 p2 p3 p4 p5 p6 pHits
  have H4 : SS W4 g t f k s := SB.below H3' hb4 (SB.lt H3')
  have hbx4 := hbx3.below hb4 hbx3.lt
  have T4 : TG g w W4 := T3.trans (Touch.of_below hb4 : TG g _ _) (fun k hk => .inl hk)
  clear H3' hbx3 T3 hb4
  have HFH := HF3.out
  obtain ⟨hv, hhv⟩ : ∃ hv, hitsV s b = hv := ⟨_, rfl⟩
  rw [hhv] at HFH ⊢
  clear hhv HF3
  cases hv
  · rw [if_neg (by simp)] at HFH
    have HF5 := Lib.hid HFH
    clear HFH
    go_wp2_with fail
    go_end0
    exact ⟨rfl, by rw [HF5.out]; exact H4, T4⟩
  · rw [if_pos rfl] at HFH
    have HF5 := Lib.hid HFH
    clear HFH
    have ht := SB.there H4 (o := 16 + k * 6) (n := 6) (by have := HK.out; omega)
    have R : SB (W4.setCells g (16 + k * 6) [.bool false, .int .i64 0, .int .i64 0, .int .i64 0, .int .i64 0, .int .i64 0]) g t (setS f (16 + k * 6) zeroS) := H4.shot HK.out zeroS
    have RT0 : TG g W4 (W4.setCells g (16 + k * 6) [.bool false, .int .i64 0, .int .i64 0, .int .i64 0, .int .i64 0, .int .i64 0]) := touch_cells (S := fun k => k = g) (Touch.refl _ _) g (.inl rfl) _ _
    have RT := T4.trans RT0 (fun k hk => .inl hk)
    have hbx5 := hbx4.touch RT0 (fun e => hgx e.symm)
    clear hbx4 H4 T4 RT0
    go_upto_region 8 with fail
    go_upto_region 9 with (refine wpList_store_mid (by rfl) 29 _ _ (by rfl) g (16 + k * 6) (List.toArray [.bool false, .int .i64 0, .int .i64 0, .int .i64 0, .int .i64 0, .int .i64 0]) (by rfl) (by rfl) ht infoS (by simp [Value.oneCell']) ?_; change wpList _ _ _ _ _ (World.setCells _ g (16 + k * 6) [.bool false, .int .i64 0, .int .i64 0, .int .i64 0, .int .i64 0, .int .i64 0]))
    generalize W4.setCells g (16 + k * 6) [.bool false, .int .i64 0, .int .i64 0, .int .i64 0, .int .i64 0, .int .i64 0] = W5 at *
    have cb := CBX.out W5 hbx5
    go_wp2_with fail
    refine (pHurt.out _ R).mono ?_
    rintro e w6 ⟨rfl, h6, t6⟩
    go_wp2_with fail
    go_end0
    exact ⟨rfl, by rw [HF5.out]; exact h6, RT.trans t6 (fun k hk => .inl hk)⟩
end Go.Proofs.Ytblnfkhaicjeaaa.Gm
