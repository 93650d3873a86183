/-
  Texts joined: Gfly, Gstep, Eql, Gnew, Gawake, Put. No condition.
-/
import Derived.Test.YtckkpgopddnkiaaGreatBRp5
import Derived.Lib.QuietBelow
import Derived.DeepKeys
import Derived.DeepKeys2
import Derived.ChangeKeysEq
import Derived.Laws.StructEq
import Derived.IntWalk
import Derived.Test.YtckkpgopddnkiaaGreatProg
namespace Go.Proofs.YtckkpgopddnkiaaGreat.Gm
open Go.RowKit Go.Sort Go.Proofs.YtckkpgopddnkiaaGreat.Num
set_option linter.all false

/-- A shot's cells. -/
structure ShotAt (w : World) (g o : Nat) (s : Shot) : Prop where
  on : w.cell? ⟨g, o, none⟩ = some (.bool (onB s.on))
  x : w.cell? ⟨g, o + 1, none⟩ = some (.int .i64 s.x)
  y : w.cell? ⟨g, o + 2, none⟩ = some (.int .i64 s.y)
  vx : w.cell? ⟨g, o + 3, none⟩ = some (.int .i64 s.vx)
  ow : w.cell? ⟨g, o + 4, none⟩ = some (.int .i64 s.owner)
  frames : w.cell? ⟨g, o + 5, none⟩ = some (.int .i64 s.frames)
  fr : ∀ j, w.frozen? ⟨g, j, none⟩ = false
theorem SB.shotAt {w : World} {g : Nat} {t : TypeId} {f : F} (h : SB w g t f) {k : Nat} (hk : k < 8) : ShotAt w g (16 + k * 6) (sho f (16 + k * 6)) :=
  ⟨h.on hk, h.shot hk (j := 1) (by omega) (by omega), h.shot hk (j := 2) (by omega) (by omega), h.shot hk (j := 3) (by omega) (by omega), h.shot hk (j := 4) (by omega) (by omega), h.shot hk (j := 5) (by omega) (by omega), fun j => h.fr j⟩
def SS (w : World) (g : Nat) (t : TypeId) (f : F) (k : Nat) (s : Shot) : Prop := SB w g t (setS f (16 + k * 6) s)
theorem setS_same (f : F) (o : Nat) : setS f o (sho f o) = f := by
  funext k
  unfold setS sho put
  (repeat' split) <;> (first | rfl | (subst_vars; rfl))
theorem setS_setS (f : F) (o : Nat) (s s2 : Shot) : setS (setS f o s) o s2 = setS f o s2 := by
  funext k
  unfold setS put
  (repeat' split) <;> (first | rfl | omega)
section
variable {w w' : World} {g : Nat} {t : TypeId} {f : F} {k : Nat} {s : Shot}
theorem SS.of (h : SB w g t f) (k : Nat) : SS w g t f k (sho f (16 + k * 6)) := by unfold SS; rw [setS_same]; exact h
theorem SS.cells (h : SS w g t f k s) (hk : k < 8) : ShotAt w g (16 + k * 6) s := by
  have := SB.shotAt h hk
  rwa [setS_sho] at this
theorem SS.drew (h : SS w g t f k s) : SS w.drew g t f k s := h
theorem SS.x (h : SS w g t f k s) (hk : k < 8) (v : Int) : SS (w.setCell ⟨g, 16 + k * 6 + 1, none⟩ (.int .i64 v)) g t f k { s with x := v } := by
  have := SB.setInt h (j := 16 + k * 6 + 1) (by omega) (by omega) (by omega) v
  unfold SS
  have e : put (setS f (16 + k * 6) s) (16 + k * 6 + 1) v = setS f (16 + k * 6) { s with x := v } := by
    funext k; unfold setS put; (repeat' split) <;> (first | rfl | omega)
  rwa [e] at this
theorem SS.frames (h : SS w g t f k s) (hk : k < 8) (v : Int) : SS (w.setCell ⟨g, 16 + k * 6 + 5, none⟩ (.int .i64 v)) g t f k { s with frames := v } := by
  have := SB.setInt h (j := 16 + k * 6 + 5) (by omega) (by omega) (by omega) v
  unfold SS
  have e : put (setS f (16 + k * 6) s) (16 + k * 6 + 5) v = setS f (16 + k * 6) { s with frames := v } := by
    funext k; unfold setS put; (repeat' split) <;> (first | rfl | omega)
  rwa [e] at this
theorem SS.shot (h : SS w g t f k s) (hk : k < 8) (s2 : Shot) : SB (w.setCells g (16 + k * 6) (shoL s2)) g t (setS f (16 + k * 6) s2) := by
  have := SB.setShot h hk s2
  rwa [setS_setS] at this
end
/-- A contract that leaves what lay, in a world of the class. -/
theorem regrown {P : Program} {f : FuncId} {args : Array Value} {v : Value} (w : World)
    (h : ∀ W, Below w.heap.size w W → Calls P f args W fun e W' => e = .returned v ∧ Below W.heap.size W W') (d : Nat) (os : Array Obj) :
    Calls P f args (grow (redrawn w d) os) fun e w'' => e = .returned v ∧ ∃ p : Regrown, w'' = grow (redrawn w p.d) p.os := Calls.regrown_of (h _ (below_regrown w d os))

/-- Both players' buttons. -/
def inV (n : Nat → Nat) : Value := .agg #[.int .u16 (n 0), .int .u16 (n 1)]

set_option maxRecDepth 100000 in
set_option maxHeartbeats 8000000 in
theorem fly_any (w : World) (g : Nat) (t : TypeId) (f : F) (fr sc : Int) (k : Nat) (n : Nat → Nat) (hk : k < 8) (hn : ∀ i, i < 2 → n i < 65536) (hS : SB w g t f) (hI : Inv fr sc f) (hsc : sc ≤ 4611686018427387904) (hon : f (16 + k * 6) ≠ 0) :
    Calls Tryz.prog 86 #[.pointer (some ⟨g, 0, none⟩), .int .i64 k, inV n] w fun e w' => e = .returned (.tuple #[]) ∧ SB w' g t (flyF f k n) ∧ TG g w w' := by
  obtain ⟨s0, hs0⟩ : ∃ s, s = sho f (16 + k * 6) := ⟨_, rfl⟩
  have hin : ShotIn s0 := by rw [hs0]; exact (hI.s k hk).resolve_left fun e => hon (congrArg Shot.on e)
  have x0 := hin.x0
  have x1 := hin.x1
  have vx : -393216 ≤ s0.vx ∧ s0.vx ≤ 393216 := by rcases hin.vx with e | e <;> omega
  have r0 := hin.f0
  have r1 := hin.f1
  have y0 := hin.y0
  have y1 := hin.y1
  have HF := Lib.hid (show flyF f k n = if goneV (flown (sho f (16 + k * 6))) then setS f (16 + k * 6) zeroS
    else if hitsV (flown (sho f (16 + k * 6))) (bod f (2 + whoV (flown (sho f (16 + k * 6))) * 7)) then hurtF (setS f (16 + k * 6) zeroS) (whoV (flown (sho f (16 + k * 6)))) (n (whoV (flown (sho f (16 + k * 6)))))
    else setS f (16 + k * 6) (flown (sho f (16 + k * 6))) from rfl)
  rw [← hs0] at HF
  have hh := hold_bd (s0.x + s0.vx)
  have HFL := Lib.hid (show flown s0 = { s0 with x := hold (s0.x + s0.vx), frames := s0.frames - 1 } from rfl)
  have hwl := whoV_lt (flown s0)
  obtain ⟨oz, hoz⟩ : ∃ oz, bits BinOp.and .i64 s0.owner 1 = oz := ⟨_, rfl⟩
  have how : 1 - oz = (whoV (flown s0) : Int) := by
    rw [← hoz]
    show 1 - bits BinOp.and .i64 s0.owner 1 = ((if s0.owner % 2 = 0 then 1 else 0 : Nat) : Int)
    rcases hin.ow with e | e
    · rw [e]; decide +kernel
    · rw [e]; decide +kernel
  have H0 : SS w g t f k s0 := by rw [hs0]; exact SS.of hS k
  have hz := hI.setS hk (.inl rfl : ShotOk zeroS)
  obtain ⟨who, hwho⟩ : ∃ who, whoV (flown s0) = who := ⟨_, rfl⟩
  rw [hwho] at HF hwl how
  have hbk := hI.b who hwl
  have hz2 := hz.b who hwl
  have hzs0 := hz.seed0
  have hzs1 := hz.seed1
  have hzq : 0 ≤ (setS f (16 + k * 6) zeroS) (64 + (1 - who)) ∧ (setS f (16 + k * 6) zeroS) (64 + (1 - who)) ≤ sc := by
    have : 1 - who = 0 ∨ 1 - who = 1 := by omega
    rcases this with e | e <;> rw [e]
    · exact ⟨hz.p0, hz.p1⟩
    · exact ⟨hz.q0, hz.q1⟩
  have pHurt := Lib.hid (fun W (hW : SB W g t (setS f (16 + k * 6) zeroS)) => hurt_any W g t (setS f (16 + k * 6) zeroS) who (n who) hwl (hn who hwl) hW hz2 hzs0 hzs1 hzq.1 (by omega))
  have pHits := Lib.hid (fun W (s : Shot) (a1 : -9223372036854775808 ≤ s.x) (a2 : s.x ≤ 9223372036854775807) (a3 : -9223372036854775808 ≤ s.y) (a4 : s.y ≤ 9223372036854775807) => hits_any W s (bod f (2 + who * 7)) a1 a2 a3 a4 hbk)
  have HK := Lib.hid hk
  have HW := Lib.hid hwl
  have k1 : (0 : Int) ≤ (k : Int) := by omega
  have k2 : (k : Int) < 8 := by omega
  have w1 : (0 : Int) ≤ (who : Int) := by omega
  have w2 : (who : Int) < 2 := by omega
  -- the box
  obtain ⟨W1, hW1⟩ : ∃ W1, W1 = w.alloc (.cells #[.int .u16 (n 0), .int .u16 (n 1)] 32) := ⟨_, rfl⟩
  have hbx : Blk W1 w.heap.size 32 #[.int .u16 (n 0), .int .u16 (n 1)] := by rw [hW1]; exact Blk.new _ _ _
  have H1 : SS W1 g t f k s0 := by rw [hW1]; exact SB.alloc H0 _
  have T1 : TG g w W1 := by rw [hW1]; exact (Touch.refl _ w).alloc _
  have hgx : g ≠ w.heap.size := by have := hS.lt; omega
  have cbx : ∀ W, Blk W w.heap.size 32 #[.int .u16 (n 0), .int .u16 (n 1)] → W.cell? ⟨w.heap.size, who, none⟩ = some (.int .u16 (n who)) := by
    intro W hW
    have := hW.cell who
    rw [this]
    have e : who = 0 ∨ who = 1 := by omega
    rcases e with rfl | rfl <;> rfl
  have CBX := Lib.hid cbx
  clear hS hI hon hk hn hin hs0 H0 hz hbk hz2 hzs0 hzs1 hzq hwho hwl cbx hsc
  unfold inV
  obtain ⟨con, cx, -, cv, -, cfr, ffr⟩ := H1.cells HK.out
  have f1 := ffr (16 + k * 6 + 1)
  have pA := Lib.hid (fun W => (wadd_any W s0.x s0.vx (by omega) (by omega) (by omega) (by omega)).mono (R' := fun e w'' => e = .returned (.int .i64 (hold (s0.x + s0.vx))) ∧ w'' = W) (fun _ _ h => ⟨h.1, h.2.symm⟩))
  generalize hold (s0.x + s0.vx) = xv at *
  go_enter Tryz.func86, Tryz.ntmps86
  go_upto_region 1 with fail
  rw [← hW1]
  clear hW1
  go_upto_region 2 with fail
  refine wp_region_still_tail 12 (by kernel_rfl) (by kernel_rfl) ?_
  simp only [List.take_succ_cons, List.take_zero, List.drop_succ_cons, List.drop_zero]
  iterate 9 still_step
  still_call (pA.out _)
  iterate 2 still_step
  refine wpStill_nil ?_
  change wpList _ _ _ _ _ (World.drew _)
  have H2 := (H1.x HK.out xv).drew
  have T2 := (TG.set T1 (16 + k * 6 + 1) (.int .i64 xv)).drew
  have hbx2 := (hbx.far (p := ⟨g, 16 + k * 6 + 1, none⟩) (fun e => hgx e.symm) (.int .i64 xv)).drew
  clear con cv pA H1 T1 hbx
  go_upto_region 3 with fail
  clear cx f1 cfr ffr
  generalize (W1.setCell ⟨g, 16 + k * 6 + 1, none⟩ (.int .i64 xv)).drew = W2 at *
  obtain ⟨con, cx, -, cv, cow, cfr, ffr⟩ := H2.cells HK.out
  have f5 := ffr (16 + k * 6 + 5)
  have H3 := H2.frames HK.out (s0.frames - 1)
  have T3 := TG.set T2 (16 + k * 6 + 5) (.int .i64 (s0.frames - 1))
  have hbx3 := hbx2.far (p := ⟨g, 16 + k * 6 + 5, none⟩) (fun e => hgx e.symm) (.int .i64 (s0.frames - 1))
  clear H2 T2 hbx2 ffr
  go_upto_region 4 with fail
  clear con cx cv cow cfr f5
  generalize W2.setCell ⟨g, 16 + k * 6 + 5, none⟩ (.int .i64 (s0.frames - 1)) = W3 at *
  have HFL2 := HFL.out
  have H3' : SS W3 g t f k (flown s0) := by rw [HFL2]; exact H3
  clear H3 HFL2
  have hsx : (flown s0).x = xv := by rw [HFL.out]
  have hsf : (flown s0).frames = s0.frames - 1 := by rw [HFL.out]
  have hso : (flown s0).owner = s0.owner := by rw [HFL.out]
  have hsy : (flown s0).y = s0.y := by rw [HFL.out]
  rw [← hso] at hoz
  have hx2 : -9223372036854775808 ≤ (flown s0).x ∧ (flown s0).x ≤ 9223372036854775807 := by omega
  have hy2 : -9223372036854775808 ≤ (flown s0).y ∧ (flown s0).y ≤ 9223372036854775807 := by omega
  clear hsx hsf hso hsy x0 x1 vx r0 r1 y0 y1 hh HFL
  generalize flown s0 = s at *
  obtain ⟨con, cx, -, -, cow, cfr, -⟩ := H3'.cells HK.out
  by_cases c1 : s.frames ≤ 0
  · have c1' : decide (s.frames ≤ 0) = true := by simpa using c1
    have HF2 := HF.out
    rw [if_pos (show goneV s = true by simp [goneV]; omega)] at HF2
    have HF3 := Lib.hid HF2
    clear HF2 HF
    have ht := SB.there H3' (o := 16 + k * 6) (n := 6) (by have := HK.out; omega)
    have R : SB (W3.setCells g (16 + k * 6) [.bool false, .int .i64 0, .int .i64 0, .int .i64 0, .int .i64 0, .int .i64 0]) g t (setS f (16 + k * 6) zeroS) := H3'.shot HK.out zeroS
    have RT : TG g w (W3.setCells g (16 + k * 6) [.bool false, .int .i64 0, .int .i64 0, .int .i64 0, .int .i64 0, .int .i64 0]) := touch_cells (S := fun k => k = g) T3 g (.inl rfl) _ _
    go_upto_region 5 with fail
    clear con cx cow cfr H3' T3 hbx3
    go_wp2_with (refine wpList_store_mid (by rfl) 43 _ _ (by rfl) g (16 + k * 6) (List.toArray [.bool false, .int .i64 0, .int .i64 0, .int .i64 0, .int .i64 0, .int .i64 0]) (by rfl) (by rfl) ht infoS (by simp [Value.oneCell']) ?_)
    refine bodyPost_ret (results_none rfl _ _ _) rfl ⟨rfl, ?_, RT⟩
    rw [HF3.out]
    exact R
  have c1' : decide (s.frames ≤ 0) = false := by simpa using c1
  by_cases c2 : s.x < 0
  · have c2' : decide (s.x < 0) = true := by simpa using c2
    have HF2 := HF.out
    rw [if_pos (show goneV s = true by simp [goneV]; omega)] at HF2
    have HF3 := Lib.hid HF2
    clear HF2 HF
    have ht := SB.there H3' (o := 16 + k * 6) (n := 6) (by have := HK.out; omega)
    have R : SB (W3.setCells g (16 + k * 6) [.bool false, .int .i64 0, .int .i64 0, .int .i64 0, .int .i64 0, .int .i64 0]) g t (setS f (16 + k * 6) zeroS) := H3'.shot HK.out zeroS
    have RT : TG g w (W3.setCells g (16 + k * 6) [.bool false, .int .i64 0, .int .i64 0, .int .i64 0, .int .i64 0, .int .i64 0]) := touch_cells (S := fun k => k = g) T3 g (.inl rfl) _ _
    go_upto_region 5 with fail
    clear con cx cow cfr H3' T3 hbx3
    go_wp2_with (refine wpList_store_mid (by rfl) 43 _ _ (by rfl) g (16 + k * 6) (List.toArray [.bool false, .int .i64 0, .int .i64 0, .int .i64 0, .int .i64 0, .int .i64 0]) (by rfl) (by rfl) ht infoS (by simp [Value.oneCell']) ?_)
    refine bodyPost_ret (results_none rfl _ _ _) rfl ⟨rfl, ?_, RT⟩
    rw [HF3.out]
    exact R
  have c2' : decide (s.x < 0) = false := by simpa using c2
  by_cases c3 : 13107200 < s.x
  · have c3' : decide (13107200 < s.x) = true := by simpa using c3
    have HF2 := HF.out
    rw [if_pos (show goneV s = true by simp [goneV]; omega)] at HF2
    have HF3 := Lib.hid HF2
    clear HF2 HF
    have ht := SB.there H3' (o := 16 + k * 6) (n := 6) (by have := HK.out; omega)
    have R : SB (W3.setCells g (16 + k * 6) [.bool false, .int .i64 0, .int .i64 0, .int .i64 0, .int .i64 0, .int .i64 0]) g t (setS f (16 + k * 6) zeroS) := H3'.shot HK.out zeroS
    have RT : TG g w (W3.setCells g (16 + k * 6) [.bool false, .int .i64 0, .int .i64 0, .int .i64 0, .int .i64 0, .int .i64 0]) := touch_cells (S := fun k => k = g) T3 g (.inl rfl) _ _
    go_upto_region 5 with fail
    clear con cx cow cfr H3' T3 hbx3
    go_wp2_with (refine wpList_store_mid (by rfl) 43 _ _ (by rfl) g (16 + k * 6) (List.toArray [.bool false, .int .i64 0, .int .i64 0, .int .i64 0, .int .i64 0, .int .i64 0]) (by rfl) (by rfl) ht infoS (by simp [Value.oneCell']) ?_)
    refine bodyPost_ret (results_none rfl _ _ _) rfl ⟨rfl, ?_, RT⟩
    rw [HF3.out]
    exact R
  have c3' : decide (13107200 < s.x) = false := by simpa using c3
  have HF2 := HF.out
  rw [if_neg (show ¬ goneV s = true by simp [goneV]; omega)] at HF2
  have HF3 := Lib.hid HF2
  clear HF2 HF
  go_upto_region 7 with fail
  clear con cx cow cfr c1' c2' c3' c1 c2 c3
  obtain ⟨on0, on1, on2, on3, on4, on5, -⟩ := H3'.cells HK.out
  have hbd := SB.bodyAt H3' HW.out
  have hbe : bod (setS f (16 + k * 6) s) (2 + who * 7) = bod f (2 + who * 7) := bod_congr (fun j h1 h2 => setS_out _ _ _ (by have := HW.out; omega))
  rw [hbe] at hbd
  clear hbe
  have cH := regrown W3 (v := .bool (hitsV s (bod f (2 + who * 7)))) (fun W _ => pHits.out W s hx2.1 hx2.2 hy2.1 hy2.2)
  generalize bod f (2 + who * 7) = b at *
  obtain ⟨b0, b1, b2, b3, b4, b5, b6, -⟩ := hbd
  unfold shoV shoL bodV bodL at cH
  have o0 := cell_regrown on0
  have o1 := cell_regrown on1
  have o2 := cell_regrown on2
  have o3 := cell_regrown on3
  have o4 := cell_regrown on4
  have o5 := cell_regrown on5
  have p0 := cell_regrown b0
  have p1 := cell_regrown b1
  have p2 := cell_regrown b2
  have p3 := cell_regrown b3
  have p4 := cell_regrown b4
  have p5 := cell_regrown b5
  have p6 := cell_regrown b6
  clear on0 on1 on2 on3 on4 on5 b0 b1 b2 b3 b4 b5 b6
  refine wp_region_quiet_below (by kernel_rfl) (by kernel_rfl) ?_
  repeat (quiet_step (exact cH _ _))
  refine wpQuiet_nil ?_
  intro W4 hw'
  obtain ⟨⟨dq, osq⟩, hw''⟩ := hw'
  have hb4 : Below W3.heap.size W3 W4 := by rw [hw'']; exact below_regrown _ _ _
  clear hw'' cH o0 o1 o2 o3 o4 o5 p0 p1 p2 p3 p4 p5 p6 pHits
  have H4 : SS W4 g t f k s := SB.below H3' hb4 (SB.lt H3')
  have hbx4 := hbx3.below hb4 hbx3.lt
  have T4 : TG g w W4 := T3.trans (Touch.of_below hb4 : TG g _ _) (fun k hk => .inl hk)
  clear H3' hbx3 T3 hb4
  have HFH := HF3.out
  obtain ⟨hv, hhv⟩ : ∃ hv, hitsV s b = hv := ⟨_, rfl⟩
  rw [hhv] at HFH ⊢
  clear hhv HF3
  cases hv
  · rw [if_neg (by simp)] at HFH
    have HF5 := Lib.hid HFH
    clear HFH
    go_wp2_with fail
    go_end0
    exact ⟨rfl, by rw [HF5.out]; exact H4, T4⟩
  · rw [if_pos rfl] at HFH
    have HF5 := Lib.hid HFH
    clear HFH
    have ht := SB.there H4 (o := 16 + k * 6) (n := 6) (by have := HK.out; omega)
    have R : SB (W4.setCells g (16 + k * 6) [.bool false, .int .i64 0, .int .i64 0, .int .i64 0, .int .i64 0, .int .i64 0]) g t (setS f (16 + k * 6) zeroS) := H4.shot HK.out zeroS
    have RT0 : TG g W4 (W4.setCells g (16 + k * 6) [.bool false, .int .i64 0, .int .i64 0, .int .i64 0, .int .i64 0, .int .i64 0]) := touch_cells (S := fun k => k = g) (Touch.refl _ _) g (.inl rfl) _ _
    have RT := T4.trans RT0 (fun k hk => .inl hk)
    have hbx5 := hbx4.touch RT0 (fun e => hgx e.symm)
    clear hbx4 H4 T4 RT0
    go_upto_region 8 with fail
    go_upto_region 9 with (refine wpList_store_mid (by rfl) 43 _ _ (by rfl) g (16 + k * 6) (List.toArray [.bool false, .int .i64 0, .int .i64 0, .int .i64 0, .int .i64 0, .int .i64 0]) (by rfl) (by rfl) ht infoS (by simp [Value.oneCell']) ?_; change wpList _ _ _ _ _ (World.setCells _ g (16 + k * 6) [.bool false, .int .i64 0, .int .i64 0, .int .i64 0, .int .i64 0, .int .i64 0]))
    generalize W4.setCells g (16 + k * 6) [.bool false, .int .i64 0, .int .i64 0, .int .i64 0, .int .i64 0, .int .i64 0] = W5 at *
    have cb := CBX.out W5 hbx5
    go_wp2_with fail
    refine (pHurt.out _ R).mono ?_
    rintro e w6 ⟨rfl, h6, t6⟩
    go_wp2_with fail
    go_end0
    exact ⟨rfl, by rw [HF5.out]; exact h6, RT.trans t6 (fun k hk => .inl hk)⟩
end Go.Proofs.YtckkpgopddnkiaaGreat.Gm
namespace Go.Proofs.YtckkpgopddnkiaaGreat.Gm
open Go.RowKit Go.Sort Go.Proofs.YtckkpgopddnkiaaGreat.Num
set_option linter.all false

def zF : F := fun _ => 0
theorem stA_zero : stA zF = Tryz.zeroCells47 := by kernel_rfl
theorem infoSt : (Tryz.prog.info? 47).map (·.size) = some 66 := by kernel_rfl
theorem infoStf (f : F) : (Tryz.prog.info? 47).map (·.size) = some (stA f).size := by rw [stA_size]; exact infoSt
def bodiesF (f : F) (n : Nat → Nat) : Nat → F
  | 0 => headF f
  | i + 1 => bodyF (bodiesF f n i) i (n i)
theorem Inv.bodies {fr sc : Int} {f : F} (h : Inv fr sc f) (n : Nat → Nat) : ∀ i : Nat, i ≤ 2 → Inv (fr + 1) sc (bodiesF f n i)
  | 0, _ => h.head
  | i + 1, hi => (Inv.bodies h n i (by omega)).body (by omega) _
theorem step_eq (f : F) (n : Nat → Nat) : stepF f n = fliesF (bodiesF f n 2) n 8 := rfl

set_option maxRecDepth 100000 in
set_option maxHeartbeats 8000000 in
theorem step_any (w : World) (f : F) (fr sc : Int) (n : Nat → Nat) (hn : ∀ i, i < 2 → n i < 65536) (hI : Inv fr sc f) (hsc : sc ≤ 4611686018427387000) (hfr : fr ≤ 4611686018427387904) (hfr0 : 0 ≤ fr) :
    Calls Tryz.prog 69 #[stV f, inV n] w fun e w' => e = .returned (stV (stepF f n)) ∧ Below w.heap.size w w' := by
  obtain ⟨W1, hW1⟩ : ∃ W1, W1 = ((w.alloc (.cells (stA f) 47)).alloc (.cells #[.int .u16 (n 0), .int .u16 (n 1)] 32)).alloc (.cells (stA zF) 47) := ⟨_, rfl⟩
  have hS : SB W1 w.heap.size 47 f := by rw [hW1]; exact ((SB.new w _ f).alloc _).alloc _
  have hbx : Blk W1 (w.heap.size + 1) 32 #[.int .u16 (n 0), .int .u16 (n 1)] := by
    rw [hW1]
    have := (Blk.new (w.alloc (.cells (stA f) 47)) 32 #[.int .u16 (n 0), .int .u16 (n 1)]).alloc (.cells (stA zF) 47)
    simpa using this
  have hR : SB W1 (w.heap.size + 1 + 1) 47 zF := by
    rw [hW1]
    have := SB.new ((w.alloc (.cells (stA f) 47)).alloc (.cells #[.int .u16 (n 0), .int .u16 (n 1)] 32)) 47 zF
    simpa using this
  have hB : Below w.heap.size w W1 := by rw [hW1]; exact (((Below.refl _ w).alloc (Nat.le_refl _) _).alloc (by simp) _).alloc (by simp; omega) _
  have hz : w.heap.size + 3 ≤ W1.heap.size := by rw [hW1]; simp
  have CBX := Lib.hid (show ∀ W, Blk W (w.heap.size + 1) 32 #[.int .u16 (n 0), .int .u16 (n 1)] → ∀ i, i < 2 → W.cell? ⟨w.heap.size + 1, i, none⟩ = some (.int .u16 (n i)) from fun W hW i hi => by
    rw [hW.cell i]
    have e : i = 0 ∨ i = 1 := by omega
    rcases e with rfl | rfl <;> rfl)
  have HN := Lib.hid hn
  have HI := Lib.hid hI
  have hf0 := hI.frame
  have sd0 := hI.seed0
  have sd1 := hI.seed1
  have c0 := hS.int (j := 0) (by omega) (by omega) (by omega)
  have c1 := hS.seed
  have f0 := hS.fr 0
  have f1 := hS.fr 1
  rw [hf0] at c0
  have hf0' := Lib.hid hf0
  have pR := Lib.hid (fun W => roll_any W (f 1) sd0 sd1)
  have hw1 : IntKind.i64.wrap (fr + 1) = fr + 1 := IntWalk.i64_in _ (by omega)
  rw [stA_zero] at hW1
  unfold inV stV
  have S2 := (hS.setInt (j := 0) (by omega) (by omega) (by omega) (fr + 1)).set_ (j := 1) (by omega) (rollV (f 1))
  rw [cv_seed] at S2
  have e2 : put (put f 0 (fr + 1)) 1 (rollV (f 1)) = bodiesF f n 0 := by rw [← hf0]; rfl
  rw [e2] at S2
  have T2 : TG w.heap.size W1 ((W1.setCell ⟨w.heap.size, 0, none⟩ (.int .i64 (fr + 1))).setCell ⟨w.heap.size, 1, none⟩ (.int .u32 (rollV (f 1)))) := TG.set (TG.set (Touch.refl _ _) _ _) _ _
  clear hn hI hf0 e2 hS
  go_enter Tryz.func69, Tryz.ntmps69
  go_upto_region 1 with fail
  rw [← hW1]
  clear hW1
  go_wp2_with fail
  refine (pR.out _).mono ?_
  rintro e w' ⟨rfl, rfl⟩
  go_upto_region 3 with fail
  clear c0 c1 f0 f1 hw1 pR
  generalize (W1.setCell ⟨w.heap.size, 0, none⟩ (.int .i64 (fr + 1))).setCell ⟨w.heap.size, 1, none⟩ (.int .u32 (rollV (f 1))) = W2 at *
  go_wp2_with fail
  go_loopw [16] (fun iv wr => ∃ i : Nat, i ≤ 2 ∧ iv = .int .i64 i ∧ SB wr w.heap.size 47 (bodiesF f n i) ∧ TG w.heap.size W1 wr) (fun iv _ => 2 - (intOf iv).toNat)
  case atStart => exact ⟨0, by omega, rfl, S2, T2⟩
  case round =>
    clear S2 T2
    obtain ⟨i, hi, rfl, hS, hT⟩ := hrel
    by_cases hlt : i < 2
    · have i1 : (0 : Int) ≤ (i : Int) := by omega
      have i2 : (i : Int) < 2 := by omega
      have hInv := HI.out.bodies n i hi
      have hb := hInv.b i hlt
      have hni := HN.out i hlt
      have cI := CBX.out wr (hbx.touch hT (by omega)) i hlt
      have p1 := Lib.hid (walk_any wr w.heap.size _ _ i (n i) _ hlt hni (BS.of hS i) hb.vx0 hb.vx1)
      have hT' := Lib.hid hT
      have HL := Lib.hid hlt
      have HNI := Lib.hid hni
      have HB := Lib.hid hb
      have HES := Lib.hid (show bodiesF f n (i + 1) = fireF (setB (bodiesF f n i) (2 + i * 7) (slideB (fallB (walkB (bod (bodiesF f n i) (2 + i * 7)) (n i)) (n i)))) i (n i) from rfl)
      clear hInv hb hS hT hni hlt
      generalize bodiesF f n i = F0 at *
      generalize bod F0 (2 + i * 7) = b at *
      go_wp2_with fail
      refine p1.out.mono ?_
      rintro e w3 ⟨rfl, h3, t3⟩
      have T3 := hT'.out.trans t3 (fun k hk => .inl hk)
      have p2 := Lib.hid (fall_any w3 w.heap.size _ _ i (n i) _ HL.out HNI.out h3 (walkB_ok HB.out _))
      have cI := CBX.out w3 (hbx.touch T3 (by omega)) i HL.out
      clear h3 t3 p1 hT'
      go_wp2_with fail
      refine p2.out.mono ?_
      rintro e w4 ⟨rfl, h4, t4⟩
      have T4 := T3.trans t4 (fun k hk => .inl hk)
      have p3 := Lib.hid (slide_any w4 w.heap.size _ _ i _ HL.out h4 (fallB_ok (walkB_ok HB.out _) _))
      clear h4 t4 p2 T3
      go_wp2_with fail
      refine p3.out.mono ?_
      rintro e w5 ⟨rfl, h5, t5⟩
      have T5 := T4.trans t5 (fun k hk => .inl hk)
      have p4 := Lib.hid (fire_any w5 w.heap.size _ _ i (n i) HL.out HNI.out h5 (by rw [setB_bod]; exact slideB_ok (fallB_ok (walkB_ok HB.out _) _)))
      have cI := CBX.out w5 (hbx.touch T5 (by omega)) i HL.out
      clear h5 t5 p3 T4
      go_wp2_with fail
      refine p4.out.mono ?_
      rintro e w6 ⟨rfl, h6, t6⟩
      have T6 := T5.trans t6 (fun k hk => .inl hk)
      clear t6 p4 T5
      have hlt := HL.out
      go_wp2_with fail
      go_roundw
      case rel => exact ⟨i + 1, by omega, by go_num, by rw [HES.out]; exact h6, T6⟩
      case measure => simp [intOf]; omega
    · obtain rfl : i = 2 := by omega
      rw [show ((2 : Nat) : Int) = 2 from rfl]
      have HST := Lib.hid (step_eq f n)
      have HI2 := Lib.hid (HI.out.bodies n 2 (by omega))
      generalize bodiesF f n 2 = F0 at *
      clear hlt hi HI
      go_wp2_with fail
      go_loopw [40] (fun kv wr => ∃ k : Nat, k ≤ 8 ∧ kv = .int .i64 k ∧ SB wr w.heap.size 47 (fliesF F0 n k) ∧ TG w.heap.size W1 wr) (fun kv _ => 8 - (intOf kv).toNat)
      case atStart => exact ⟨0, by omega, rfl, hS, hT⟩
      case round =>
        clear hS hT
        obtain ⟨k, hk, rfl, hS, hT⟩ := hrel
        by_cases hlt : k < 8
        · have k1 : (0 : Int) ≤ (k : Int) := by omega
          have k2 : (k : Int) < 8 := by omega
          have con := hS.on hlt
          have hInv := HI2.out.flies n k hk
          have hT' := Lib.hid hT
          have HES := Lib.hid (show fliesF F0 n (k + 1) = if fliesF F0 n k (16 + k * 6) = 0 then fliesF F0 n k else flyF (fliesF F0 n k) k n from rfl)
          by_cases hon : fliesF F0 n k (16 + k * 6) = 0
          · rw [onB_no hon] at con
            have HES2 := HES.out
            rw [if_pos hon] at HES2
            have HES3 := Lib.hid HES2
            have HS := Lib.hid hS
            clear HES HES2 hon hS hT hInv
            go_wp2_with fail
            go_roundw
            case rel => exact ⟨k + 1, by omega, by go_num, by rw [HES3.out]; exact HS.out, hT'.out⟩
            case measure => simp [intOf]; omega
          · rw [onB_yes hon] at con
            have HES2 := HES.out
            rw [if_neg hon] at HES2
            have HES3 := Lib.hid HES2
            have hbx2 := hbx.touch hT (by omega)
            have d0 := hbx2.cell 0
            have d1 := hbx2.cell 1
            have p1 := Lib.hid (fly_any wr w.heap.size _ _ _ _ k n hlt HN.out hS hInv (by omega) hon)
            unfold inV at p1
            clear HES HES2 hon hS hT hInv hbx2
            generalize fliesF F0 n k = F1 at *
            go_wp2_with fail
            refine p1.out.mono ?_
            rintro e w3 ⟨rfl, h3, t3⟩
            have T3 := hT'.out.trans t3 (fun k hk => .inl hk)
            clear t3 p1 hT'
            go_wp2_with fail
            go_roundw
            case rel => exact ⟨k + 1, by omega, by go_num, by rw [HES3.out]; exact h3, T3⟩
            case measure => simp [intOf]; omega
        · obtain rfl : k = 8 := by omega
          rw [← HST.out] at hS
          have hR2 : SB wr (w.heap.size + 1 + 1) 47 zF := hR.touch hT (by omega)
          have hBB := hB.trans ((hT.below (by omega) (fun k hk => by omega) : Below w.heap.size W1 wr))
          clear hT hR hbx hlt hk CBX HN HI2 HST
          obtain ⟨C, hC⟩ : ∃ C, C = stA (stepF f n) := ⟨_, rfl⟩
          have hsz : C.size = 66 := by rw [hC]; exact stA_size _
          have hone : C.all (·.oneCell') = true := by rw [hC]; exact stA_one _
          have hif : (Tryz.prog.info? 47).map (·.size) = some C.size := by rw [hsz]; exact infoSt
          have hS2 : Blk wr w.heap.size 47 C := by rw [hC]; exact hS
          obtain ⟨Z, hZ⟩ : ∃ Z, Z = stA zF := ⟨_, rfl⟩
          have hzs : Z.size = C.size := by rw [hZ, hsz]; exact stA_size _
          have hR3 : Blk wr (w.heap.size + 1 + 1) 47 Z := by rw [hZ]; exact hR2
          have HC := Lib.hid hC
          clear hC hZ hR2 hS hsz
          go_wp2_with (first | (refine wpList_load_blk (by rfl) 47 _ (by rfl) w.heap.size (by rfl) _ C _ hS2 Tryz.underlying47 (by rfl) hif ?_) | (refine wpList_store_blk (by rfl) 47 _ _ (by rfl) (w.heap.size + 1 + 1) C (by rfl) (by rfl) _ Z hR3 hif hzs hone ?_; intro W6 hd6 ht6))
          refine bodyPost_ret (v := .agg C) (results_blk Tryz.results69 _ _ (w.heap.size + 1 + 1) _ _ _ (by rfl) hd6 Tryz.underlying47 (by rfl) hif) rfl ⟨by rw [HC.out], ?_⟩
          exact hBB.trans (ht6.below hBB.size (fun k hk => by omega))
end Go.Proofs.YtckkpgopddnkiaaGreat.Gm
namespace Go.Proofs.YtckkpgopddnkiaaGreat.Eql
open Go.RowKit Go.WideShapes
set_option linter.all false

/-- Two cells of one kind, the second one as it may be. -/
def OneK (a b : Value) : Prop := (∃ x y, a = .bool x ∧ b = .bool y) ∨ (∃ k x y, a = .int k x ∧ b = .int k y ∧ (Lit.int k y).wf = true)
def SameK (cs cs' : List Value) : Prop := cs.length = cs'.length ∧ ∀ (i : Nat) (a b : Value), cs[i]? = some a → cs'[i]? = some b → OneK a b
theorem SameK.drop {cs cs' : List Value} (h : SameK cs cs') (n : Nat) : SameK (cs.drop n) (cs'.drop n) :=
  ⟨by simp [h.1], fun i a b ha hb => h.2 (n + i) a b (by rwa [List.getElem?_drop] at ha) (by rwa [List.getElem?_drop] at hb)⟩
theorem SameK.take {cs cs' : List Value} (h : SameK cs cs') (n : Nat) : SameK (cs.take n) (cs'.take n) :=
  ⟨by simp [h.1], fun i a b ha hb => by
    rw [List.getElem?_take] at ha hb
    split at ha
    · rename_i hi
      rw [if_pos hi] at hb
      exact h.2 i a b ha hb
    · cases ha⟩
theorem mapM_some {α : Type} {f g : α → Option (List Lit)} : ∀ (L : List α), (∀ x ∈ L, (f x).isSome = true → (g x).isSome = true) → (L.mapM f).isSome = true → (L.mapM g).isSome = true
  | [], _, _ => rfl
  | x :: r, h, hf => by
    rw [List.mapM_cons] at hf ⊢
    cases hx : f x with
    | none => simp [hx] at hf
    | some a =>
      cases hr : r.mapM f with
      | none => simp [hx, hr] at hf
      | some b =>
        obtain ⟨a', ha'⟩ := Option.isSome_iff_exists.1 (h x (by simp) (by rw [hx]; rfl))
        obtain ⟨b', hb'⟩ := Option.isSome_iff_exists.1 (mapM_some r (fun y hy => h y (by simp [hy])) (by rw [hr]; rfl))
        simp [ha', hb']
section
variable {P : Program}
theorem lits_same : ∀ (D : Nat) (t : TypeId) (cs cs' : List Value), SameK cs cs' → (P.keyLits D t cs).isSome = true → (P.keyLits D t cs').isSome = true
  | 0, _, _, _, _, h => by simp [Program.keyLits] at h
  | D + 1, t, cs, cs', hs, h => by
    cases hu : P.underlying t with
    | none => simp [Program.keyLits, hu] at h
    | some kd =>
      obtain ⟨l, hl⟩ := Option.isSome_iff_exists.1 h
      have one : ∀ v, cs = [v] → ∃ v', cs' = [v'] ∧ OneK v v' := by
        intro v e
        subst e
        have h1 := hs.1
        match cs', h1, hs with
        | [v'], _, hs => exact ⟨v', rfl, hs.2 0 v v' rfl rfl⟩
      cases kd with
      | bool =>
        obtain ⟨b, e, _⟩ := keyLits_bool' hu hl
        obtain ⟨v', e', h1⟩ := one _ e
        subst e'
        rcases h1 with ⟨x, y, _, rfl⟩ | ⟨k, x, y, e1, _⟩
        · simp [Program.keyLits, hu]
        · cases e1
      | int q =>
        obtain ⟨n, e, _⟩ := keyLits_int' hu hl
        obtain ⟨v', e', h1⟩ := one _ e
        subst e'
        rcases h1 with ⟨x, y, e1, _⟩ | ⟨k, x, y, e1, rfl, hw⟩
        · cases e1
        · cases e1
          simp [Program.keyLits, hu, hw]
      | string =>
        obtain ⟨s, e, _⟩ := keyLits_string' hu hl
        obtain ⟨v', e', h1⟩ := one _ e
        rcases h1 with ⟨x, y, e1, _⟩ | ⟨k, x, y, e1, _⟩ <;> cases e1
      | array n e =>
        simp only [Program.keyLits, hu] at h ⊢
        rw [hs.1] at h
        split at h
        · rename_i hc
          rw [if_pos hc]
          rw [Option.isSome_map] at h ⊢
          exact mapM_some _ (fun i _ => lits_same D e _ _ ((hs.drop _).take _)) h
        · simp at h
      | struct fs =>
        simp only [Program.keyLits, hu] at h ⊢
        rw [hs.1] at h
        split at h
        · rename_i hc
          rw [if_pos hc]
          rw [Option.isSome_map] at h ⊢
          exact mapM_some _ (fun f _ => lits_same D f.type _ _ ((hs.drop _).take _)) h
        · simp at h
      | _ => simp [Program.keyLits, hu] at h
/-- The comparison. -/
theorem eql_run (w : World) {m : Nat} (hm : m ≤ 10000) {t : TypeId} (hk : P.keyTypeAt m t = true) (ht : P.tiled m t = true)
    (hwide : (match P.underlying t with | some (.array _ _) | some (.struct _) => true | _ => false) = true)
    (z : List Value) {D : Nat} (hz : (P.keyLits D t z).isSome = true) (hzl : z.length = P.cellsOf t) {xs ys : Array Value} (hx : SameK z xs.toList) (hy : SameK z ys.toList) :
    ∃ r : Bool, (Op.equalIn 10000 t (.agg xs) (.agg ys)).run P w = .ok r w ∧ (r = true ↔ xs = ys) := by
  obtain ⟨lx, hlx⟩ := Option.isSome_iff_exists.1 (lits_same D t z xs.toList hx hz)
  obtain ⟨ly, hly⟩ := Option.isSome_iff_exists.1 (lits_same D t z ys.toList hy hz)
  have fx : ∀ cs : Array Value, SameK z cs.toList → (Value.agg cs).formed P t = true := by
    intro cs hc
    have hl := hc.1
    rw [hzl] at hl
    unfold Value.formed
    revert hwide
    cases P.underlying t with
    | none => intro h; cases h
    | some d => cases d <;> intro h <;> first | (cases h; done) | (simp; simpa using hl.symm)
  have := run_equalIn_deep (P := P) (10000 - m) m t hk w D D (.agg xs) (.agg ys) lx ly (fx xs hx) (fx ys hy) hlx hly
  rw [show 10000 - m + m = 10000 by omega] at this
  obtain ⟨r, hr, hiff⟩ := this
  refine ⟨r, hr, hiff.trans ⟨fun e => ?_, fun e => ?_⟩⟩
  · have cx := cells_of_lits m t ht D _ _ hlx
    have cy := cells_of_lits m t ht D _ _ hly
    rw [e, ← cy] at cx
    exact Array.ext' cx
  · subst e
    rw [hlx] at hly
    exact Option.some.inj hly
end
end Go.Proofs.YtckkpgopddnkiaaGreat.Eql
namespace Go.Proofs.YtckkpgopddnkiaaGreat.Gm
open Go.RowKit Go.Sort Go.Proofs.YtckkpgopddnkiaaGreat.Num
set_option linter.all false

/-- A block stored whole, as an equation that the walk rewrites by. -/
theorem store_run {P : Program} (w : World) (g : Nat) (t : TypeId) (old : Array Value) (cells : List Value) (hg : Blk w g t old) (hs : old.size = cells.length) (h1 : ∀ v ∈ cells, v.oneCell' = true) :
    ∃ w', (storeCells ⟨g, 0, none⟩ cells).run P w = .ok () w' ∧ Blk w' g t cells.toArray ∧ Touch (fun k => k = g) w w' := by
  have := run_storeCells_from (P := P) g t cells 0 old w hg (by omega) h1
  refine ⟨_, this, ?_, touch_setRow w g _⟩
  have e : (old.toList.take 0 ++ cells).toArray = cells.toArray := by simp
  rw [e]
  exact hg.setRow _
def bornF (seed : Int) : Nat → F
  | 0 => put zF 1 seed
  | i + 1 => setB (bornF seed i) (2 + i * 7) (bornB i)
theorem newF_eq (seed : Int) : newF seed = bornF seed 2 := rfl
/-- A state's cells as a letter: what the walk need know. -/
structure Let (C : Array Value) (f : F) : Prop where
  eq : C = stA f
  size : C.size = 66
  one : C.all (·.oneCell') = true
  info : (Tryz.prog.info? 47).map (·.size) = some C.size
theorem let_of (f : F) : ∃ C, Let C f := ⟨_, rfl, stA_size f, stA_one f, infoStf f⟩
theorem Let.blk {C : Array Value} {f : F} {w : World} {g : Nat} {t : TypeId} (h : Let C f) (hS : SB w g t f) : Blk w g t C := by rw [h.eq]; exact hS
theorem Let.sb {C : Array Value} {f : F} {w : World} {g : Nat} {t : TypeId} (h : Let C f) (hS : Blk w g t C) : SB w g t f := by rw [h.eq] at hS; exact hS

set_option maxRecDepth 100000 in
set_option maxHeartbeats 4000000 in
theorem new_any (w : World) (seed : Int) (h0 : 0 ≤ seed) (h1 : seed < 4294967296) :
    Calls Tryz.prog 30 #[.int .u32 seed] w fun e w' => e = .returned (stV (newF seed)) ∧ Below w.heap.size w w' := by
  obtain ⟨W1, hW1⟩ : ∃ W1, W1 = w.alloc (.cells Tryz.zeroCells47 47) := ⟨_, rfl⟩
  have hR : Blk W1 w.heap.size 47 Tryz.zeroCells47 := by rw [hW1]; exact Blk.new _ _ _
  have hB1 : Below w.heap.size w W1 := by rw [hW1]; exact (Below.refl _ w).alloc (Nat.le_refl _) _
  have hs1 : W1.heap.size = w.heap.size + 1 := by rw [hW1]; simp
  have hR2 := hR.alloc (.cells Tryz.zeroCells47 47)
  have hX2 : Blk (W1.alloc (.cells Tryz.zeroCells47 47)) W1.heap.size 47 Tryz.zeroCells47 := Blk.new _ _ _
  have hB2 : Below w.heap.size w (W1.alloc (.cells Tryz.zeroCells47 47)) := hB1.alloc (by omega) _
  obtain ⟨C, hC⟩ : ∃ C, C = Tryz.zeroCells47.setIfInBounds 1 (.int .u32 seed) := ⟨_, rfl⟩
  have LC : Let C (put zF 1 seed) := by
    have e : C = stA (put zF 1 seed) := by rw [hC, ← stA_zero]; exact stA_put zF (by omega) seed
    rw [e]
    exact ⟨rfl, stA_size _, stA_one _, infoStf _⟩
  have hz66 : Tryz.zeroCells47.size = 66 := by rw [← stA_zero]; exact stA_size _
  have hone := LC.one
  have hinf := LC.info
  have LC' := Lib.hid LC
  have HC := Lib.hid hC.symm
  have HINF := Lib.hid hinf
  clear hinf
  have HS1 := Lib.hid hs1
  clear hs1 LC hB1 hR hC
  go_enter Tryz.func30, Tryz.ntmps30
  go_upto_region 1 with fail
  rw [← hW1]
  clear hW1
  obtain ⟨W3, hrun, hX3, hT3⟩ := store_run (P := Tryz.prog) _ W1.heap.size _ _ (Tryz.zeroCells47.toList.set 1 (.int .u32 seed)) hX2 (by simp) (fun v hv => (Array.all_eq_true_iff_forall_mem.1 hone) v (by rw [← HC.out, ← Array.mem_toList_iff, Array.toList_setIfInBounds]; exact hv))
  have hX4 : Blk W3 W1.heap.size 47 C := by
    have e : (Tryz.zeroCells47.toList.set 1 (.int .u32 seed)).toArray = C := by rw [← HC.out]; apply Array.ext'; simp
    rw [← e]
    exact hX3
  have hR3 : Blk W3 w.heap.size 47 Tryz.zeroCells47 := hR2.touch hT3 (by have := HS1.out; omega)
  have hB3 : Below w.heap.size w W3 := hB2.trans (hT3.below hB2.size (fun k hk => by have := HS1.out; omega))
  clear hX3 hX2 hR2 hT3 hB2 hone
  go_upto_region 2 with fail
  rw [HS1.out] at *
  clear hrun
  have S0 : SB W3 (w.heap.size + 1) 47 (bornF seed 0) := LC'.out.sb hX4
  clear hX4
  go_wp2_with fail
  go_loopw [7] (fun iv wr => ∃ i : Nat, i ≤ 2 ∧ iv = .int .i64 i ∧ SB wr (w.heap.size + 1) 47 (bornF seed i) ∧ Blk wr w.heap.size 47 Tryz.zeroCells47 ∧ Below w.heap.size w wr) (fun iv _ => 2 - (intOf iv).toNat)
  case atStart => exact ⟨0, by omega, rfl, S0, hR3, hB3⟩
  case round =>
    clear S0 hR3 hB3
    obtain ⟨i, hi, rfl, hS, hR, hB⟩ := hrel
    by_cases hlt : i < 2
    · have i1 : (0 : Int) ≤ (i : Int) := by omega
      have i2 : (i : Int) < 2 := by omega
      have p := Lib.hid (born_any wr i hlt)
      have HE := Lib.hid (show bornF seed (i + 1) = setB (bornF seed i) (2 + i * 7) (bornB i) from rfl)
      have HL := Lib.hid hlt
      have HS := Lib.hid hS
      have HR := Lib.hid hR
      have HB := Lib.hid hB
      clear hS hR hB hlt
      go_wp2_with fail
      refine p.out.mono ?_
      rintro e w2 ⟨rfl, hb2⟩
      have hS2 := HS.out.below hb2 HS.out.lt
      have hR2 := HR.out.below hb2 HR.out.lt
      have hB2 := HB.out.trans (hb2.mono HB.out.size)
      have ht := hS2.there (o := 2 + i * 7) (n := 7) (by have := HL.out; omega)
      have hS3 := hS2.setBody HL.out (bornB i)
      have hT3 : Touch (fun k => k = w.heap.size + 1) w2 (w2.setCells (w.heap.size + 1) (2 + i * 7) (bodL (bornB i))) := touch_setCells (S := fun k => k = w.heap.size + 1) (Touch.refl _ _) _ (.inl rfl) _ _
      have hR3 := hR2.touch hT3 (by omega)
      have hB3 := hB2.trans (hT3.below hB2.size (fun k hk => by omega))
      rw [← HE.out] at hS3
      clear hS2 hR2 hB2 hT3 hb2 p
      go_upto_region 6 with (refine wpList_store_mid (by rfl) 40 _ _ (by rfl) (w.heap.size + 1) (2 + i * 7) (bodL (bornB i)).toArray (by rfl) (by rfl) ht infoB (bodL_one _) ?_)
      clear ht
      have hlt := HL.out
      go_wp2_with fail
      go_roundw
      case rel => exact ⟨i + 1, by omega, by go_num, hS3, hR3, hB3⟩
      case measure => simp [intOf]; omega
    · obtain rfl : i = 2 := by omega
      rw [← newF_eq] at hS
      obtain ⟨C9, LC9⟩ := let_of (newF seed)
      have hS9 := LC9.blk hS
      have hzs : Tryz.zeroCells47.size = C9.size := by rw [LC9.size, ← stA_zero]; exact stA_size _
      have hif := LC9.info
      have hone := LC9.one
      have HC9 := Lib.hid LC9.eq
      clear LC9 hS hlt
      go_upto_region 7 with fail
      go_wp2_with (first | (refine wpList_load_blk (by rfl) 47 _ (by rfl) (w.heap.size + 1) (by rfl) _ C9 _ hS9 Tryz.underlying47 (by rfl) hif ?_) | (refine wpList_store_blk (by rfl) 47 _ _ (by rfl) w.heap.size C9 (by rfl) (by rfl) _ _ hR hif hzs hone ?_; intro W6 hd6 ht6))
      refine bodyPost_ret (v := .agg C9) (results_blk Tryz.results30 _ _ w.heap.size _ _ _ (by rfl) hd6 Tryz.underlying47 (by rfl) hif) rfl ⟨by rw [HC9.out]; rfl, ?_⟩
      exact hB.trans (ht6.below hB.size (fun k hk => by omega))

/-! ### Play -/
def inA (ls : List (Nat × Nat)) (j : Nat) : Nat → Nat := fun i => if i = 0 then (ls.getD j (0, 0)).1 else (ls.getD j (0, 0)).2
/-- A list of both players' inputs that lies in memory. -/
def InRow (w : World) (a : Option Addr) (ls : List (Nat × Nat)) : Prop :=
  (∀ x ∈ ls, x.1 < 65536 ∧ x.2 < 65536) ∧ (0 < ls.length → ∃ b off, a = some ⟨b, off, none⟩ ∧ b < w.heap.size ∧ ∀ j, j < ls.length → w.cell? ⟨b, off + j * 2, none⟩ = some (.int .u16 (inA ls j 0)) ∧ w.cell? ⟨b, off + j * 2 + 1, none⟩ = some (.int .u16 (inA ls j 1)))
theorem InRow.below {w w' : World} {a : Option Addr} {ls : List (Nat × Nat)} (h : InRow w a ls) (hb : Below w.heap.size w w') : InRow w' a ls :=
  ⟨h.1, fun hp => by
    obtain ⟨b, off, e, hlt, hc⟩ := h.2 hp
    exact ⟨b, off, e, Nat.lt_of_lt_of_le hlt hb.size, fun j hj => ⟨(hb.cell (p := ⟨b, off + j * 2, none⟩) hlt).trans (hc j hj).1, (hb.cell (p := ⟨b, off + j * 2 + 1, none⟩) hlt).trans (hc j hj).2⟩⟩⟩
theorem inA_lt {ls : List (Nat × Nat)} (h : ∀ x ∈ ls, x.1 < 65536 ∧ x.2 < 65536) (j : Nat) : ∀ i, i < 2 → inA ls j i < 65536 := by
  intro i hi
  have hx : (ls.getD j (0, 0)).1 < 65536 ∧ (ls.getD j (0, 0)).2 < 65536 := by
    by_cases hj : j < ls.length
    · rw [List.getD_eq_getElem?_getD, List.getElem?_eq_getElem hj]
      exact h _ (List.getElem_mem hj)
    · rw [List.getD_eq_getElem?_getD, List.getElem?_eq_none (by omega)]
      exact ⟨by decide, by decide⟩
  unfold inA
  split
  · exact hx.1
  · exact hx.2
def playF (f : F) (ls : List (Nat × Nat)) : Nat → F
  | 0 => f
  | k + 1 => stepF (playF f ls k) (inA ls k)
theorem Inv.play {fr sc : Int} {f : F} (h : Inv fr sc f) (ls : List (Nat × Nat)) : ∀ k : Nat, Inv (fr + k) (sc + 8 * k) (playF f ls k)
  | 0 => by simpa [playF] using h
  | k + 1 => by
    have := (Inv.play h ls k).step (inA ls k)
    have e1 : fr + ((k + 1 : Nat) : Int) = fr + (k : Int) + 1 := by omega
    have e2 : sc + 8 * ((k + 1 : Nat) : Int) = sc + 8 * (k : Int) + 8 := by omega
    rw [e1, e2]
    exact this

end Go.Proofs.YtckkpgopddnkiaaGreat.Gm
namespace Go.Proofs.YtckkpgopddnkiaaGreat.Gm
open Go.RowKit Go.Sort Go.Proofs.YtckkpgopddnkiaaGreat.Num Go.Proofs.YtckkpgopddnkiaaGreat.Eql
set_option linter.all false

/-- The numbers fit their cells. -/
structure Wf (f : F) : Prop where
  i64 : ∀ j, j < 66 → -9223372036854775808 ≤ f j ∧ f j ≤ 9223372036854775807
  seed : 0 ≤ f 1 ∧ f 1 < 4294967296
theorem Inv.wf {fr sc : Int} {f : F} (h : Inv fr sc f) (h0 : 0 ≤ fr) (h1 : fr ≤ 4611686018427387904) (h2 : sc ≤ 4611686018427387904) : Wf f := by
  refine ⟨fun j hj => ?_, h.seed0, h.seed1⟩
  have s0 := h.seed0
  have s1 := h.seed1
  have f0 := h.frame
  have p0 := h.p0
  have p1 := h.p1
  have q0 := h.q0
  have q1 := h.q1
  by_cases a : j = 0
  · subst a; omega
  by_cases b : j = 1
  · subst b; omega
  by_cases c : j < 16
  · obtain ⟨i, r, hi, hr, rfl⟩ : ∃ i r, i < 2 ∧ r < 7 ∧ j = 2 + i * 7 + r := ⟨(j - 2) / 7, (j - 2) % 7, by omega, by omega, by omega⟩
    have hb := h.b i hi
    have x0 := hb.x0; have x1 := hb.x1; have y0 := hb.y0; have y1 := hb.y1; have v0 := hb.vx0; have v1 := hb.vx1; have u0 := hb.vy0; have u1 := hb.vy1
    have l0 := hb.l0; have l1 := hb.l1; have c0 := hb.c0; have c1 := hb.c1; have fc := hb.fc
    simp only [bod] at x0 x1 y0 y1 v0 v1 u0 u1 l0 l1 c0 c1 fc
    match r, hr with
    | 0, _ => simp only [Nat.add_zero]; omega
    | 1, _ => omega
    | 2, _ => omega
    | 3, _ => omega
    | 4, _ => omega
    | 5, _ => omega
    | 6, _ => omega
  by_cases d : j < 64
  · obtain ⟨k, r, hk, hr, rfl⟩ : ∃ k r, k < 8 ∧ r < 6 ∧ j = 16 + k * 6 + r := ⟨(j - 16) / 6, (j - 16) % 6, by omega, by omega, by omega⟩
    rcases h.s k hk with e | e
    · have z : ∀ r, r < 6 → f (16 + k * 6 + r) = 0 := by
        intro r hr
        simp only [sho, zeroS, Shot.mk.injEq] at e
        obtain ⟨e0, e1, e2, e3, e4, e5⟩ := e
        match r, hr with
        | 0, _ => exact e0
        | 1, _ => exact e1
        | 2, _ => exact e2
        | 3, _ => exact e3
        | 4, _ => exact e4
        | 5, _ => exact e5
      rw [z r hr]; omega
    · have o := e.on; have x0 := e.x0; have x1 := e.x1; have y0 := e.y0; have y1 := e.y1; have v := e.vx; have w := e.ow; have r0 := e.f0; have r1 := e.f1
      simp only [sho] at o x0 x1 y0 y1 v w r0 r1
      match r, hr with
      | 0, _ => simp only [Nat.add_zero]; omega
      | 1, _ => omega
      | 2, _ => omega
      | 3, _ => omega
      | 4, _ => omega
      | 5, _ => omega
  · have : j = 64 ∨ j = 65 := by omega
    rcases this with rfl | rfl <;> omega
theorem sameK_st {f : F} (h : Wf f) : SameK (stA zF).toList (stA f).toList := by
  refine ⟨by simp [stA], fun i a b ha hb => ?_⟩
  have hi : i < 66 := by
    have := (List.getElem?_eq_some_iff.1 ha).1
    simpa [stA] using this
  rw [Array.getElem?_toList, stA_get _ hi] at ha hb
  cases ha; cases hb
  have r := h.i64 i hi
  have s := h.seed
  by_cases e1 : i = 1
  · subst e1
    rw [cv_seed, cv_seed]
    exact .inr ⟨_, _, _, rfl, rfl, by simp [Lit.wf, IntKind.min, IntKind.max, IntKind.bits, IntKind.signed] <;> omega⟩
  · by_cases e2 : 16 ≤ i ∧ i < 64 ∧ (i - 16) % 6 = 0
    · exact .inl ⟨onB (zF i), onB (f i), by unfold cv; rw [if_neg e1, if_pos e2], by unfold cv; rw [if_neg e1, if_pos e2]⟩
    · rw [cv_int _ e1 e2, cv_int _ e1 e2]
      exact .inr ⟨_, _, _, rfl, rfl, by simp [Lit.wf, IntKind.min, IntKind.max, IntKind.bits, IntKind.signed] <;> omega⟩
theorem key33 : Tryz.prog.keyTypeAt 6 47 = true := by kernel_rfl
theorem tiled33 : Tryz.prog.tiled 6 47 = true := by kernel_rfl
theorem lits33 : (Tryz.prog.keyLits 6 47 (stA zF).toList).isSome = true := by kernel_rfl
theorem cells33 : (stA zF).toList.length = Tryz.prog.cellsOf 47 := by kernel_rfl
theorem guard33 : Tryz.prog.eqGuardType Tryz.prog.depth 47 = false := by kernel_rfl
theorem st_eql (w : World) {f g : F} (hf : Wf f) (hg : Wf g) : ∃ r : Bool, (Op.equalIn 10000 47 (.agg (stA f)) (.agg (stA g))).run Tryz.prog w = .ok r w ∧ (r = true ↔ stA f = stA g) :=
  eql_run (P := Tryz.prog) w (m := 6) (by decide) key33 tiled33 (by kernel_rfl) (stA zF).toList lits33 cells33 (sameK_st hf) (sameK_st hg)
theorem st_same (w : World) {f g : F} (hf : Wf f) (hg : Wf g) (e : stA f = stA g) : (Op.equalIn 10000 47 (.agg (stA f)) (.agg (stA g))).run Tryz.prog w = .ok true w := by
  obtain ⟨r, hr, hi⟩ := st_eql w hf hg
  rw [hi.2 e] at hr
  exact hr
theorem first_step : stA (stepF (newF 1) (fun _ => 0)) = stA (put (put (newF 1) 0 1) 1 (rollV 1)) := by kernel_rfl
theorem hz66 : Tryz.zeroCells47.size = 66 := by rw [← stA_zero]; exact stA_size _
/-- 's := ..' of a state: a block laid and stored whole. -/
theorem alloc_store (w : World) {C : Array Value} {f : F} (L : Let C f) : ∃ W3, (storeCells ⟨w.heap.size, 0, none⟩ C.toList).run Tryz.prog (w.alloc (.cells Tryz.zeroCells47 47)) = .ok () W3 ∧ SB W3 w.heap.size 47 f ∧ Below w.heap.size w W3 ∧ w.heap.size + 1 = W3.heap.size := by
  have hX : Blk (w.alloc (.cells Tryz.zeroCells47 47)) w.heap.size 47 Tryz.zeroCells47 := Blk.new _ _ _
  have := run_storeCells_from (P := Tryz.prog) w.heap.size 47 C.toList 0 _ _ hX (by rw [hz66]; simp [L.size]) (fun v hv => (Array.all_eq_true_iff_forall_mem.1 L.one) v (by simpa using hv))
  refine ⟨_, this, ?_, ?_, by simp⟩
  · have e : (Tryz.zeroCells47.toList.take 0 ++ C.toList).toArray = C := by simp
    rw [e]
    exact L.sb (hX.setRow C)
  · exact ((Below.refl _ w).alloc (Nat.le_refl _) _).trans ((touch_setRow _ w.heap.size _).below (by simp) (fun k hk => by omega))

end Go.Proofs.YtckkpgopddnkiaaGreat.Gm
namespace Go.Proofs.YtckkpgopddnkiaaGreat.Byt
open Go.RowKit
set_option linter.all false

def be4 (z : Int) : List Int := [z / 16777216 % 256, z / 65536 % 256, z / 256 % 256, z % 256]
def be8 (z : Int) : List Int := be4 (z / 4294967296) ++ be4 z
def ub (l : List Int) : List Value := l.map (Value.int .u8)
theorem ub_len (l : List Int) : (ub l).length = l.length := by simp [ub]
theorem ub_app (l m : List Int) : ub (l ++ m) = ub l ++ ub m := by simp [ub]
theorem ub_one (l : List Int) : ∀ u ∈ ub l, u.oneCell' = true := one_map .u8 l
/-- Bytes in a slice. -/
def Out (w : World) (v : Value) (xs : List Int) : Prop := On w 5 1 v xs.length (ub xs)
theorem Out.nil (w : World) : Out w (.slice none 0 0) [] := On.nil _ _ _
theorem Out.below' {w w' : World} {v : Value} {xs : List Int} (h : Out w v xs) (hb : Below w.heap.size w w') : Out w' v xs := On.below h hb (On.lt h)
abbrev OwnB (v : Value) : Nat → Prop := fun k => v.ownBlock = some k
/-- What a function that puts bytes hands back. -/
def Puts (w : World) (v : Value) (xs : List Int) (e : Ending) (w' : World) : Prop := ∃ v', e = .returned v' ∧ Out w' v' xs ∧ Touch (OwnB v) w w' ∧ (∀ g, v'.ownBlock = some g → v.ownBlock = some g ∨ w.heap.size ≤ g)
theorem be4_wrap (z : Int) : be4 (IntKind.u32.wrap z) = be4 z := by
  simp only [be4, IntKind.wrap, IntKind.bits, IntKind.signed]
  simp
  omega
theorem be8_wrap (z : Int) : be8 (IntKind.u64.wrap z) = be8 z := by
  simp only [be8, be4, IntKind.wrap, IntKind.bits, IntKind.signed]
  simp
  omega
theorem info8 : (Tryz.prog.info? 5).map (fun i => (i.zero, i.size, i.bytes)) = some (some (.int .u8 0), 1, 1) := by kernel_rfl

set_option maxRecDepth 100000 in
set_option maxHeartbeats 2000000 in
theorem put32_any (w : World) (v : Value) (xs : List Int) (z : Int) (h : Out w v xs) (hl : xs.length ≤ 1000000) (h0 : 0 ≤ z) (h1 : z < 4294967296) :
    Calls Tryz.prog 93 #[v, .int .u32 z] w (Puts w v (xs ++ be4 z)) := by
  obtain ⟨i0, hi, hz0, hz1, hz2⟩ := info_parts info8
  have w1 : IntKind.u8.wrap (z / 16777216) = z / 16777216 % 256 := by simp [IntKind.wrap, IntKind.bits, IntKind.signed]
  have w2 : IntKind.u8.wrap (z / 65536) = z / 65536 % 256 := by simp [IntKind.wrap, IntKind.bits, IntKind.signed]
  have w3 : IntKind.u8.wrap (z / 256) = z / 256 % 256 := by simp [IntKind.wrap, IntKind.bits, IntKind.signed]
  have w4 : IntKind.u8.wrap z = z % 256 := by simp [IntKind.wrap, IntKind.bits, IntKind.signed]
  have fin : ∀ (u v' : Value) (w' : World), u.ownBlock = v.ownBlock → On w' 5 1 v' (xs.length + 4) (ub xs ++ ub (be4 z)) → (w.alloc (.cells #[.int .u8 (z / 16777216 % 256), .int .u8 (z / 65536 % 256), .int .u8 (z / 256 % 256), .int .u8 (z % 256)] 5)).grownBy w' u.ownBlock → (v'.ownBlock = u.ownBlock ∨ v'.ownBlock = some (w.alloc (.cells #[.int .u8 (z / 16777216 % 256), .int .u8 (z / 65536 % 256), .int .u8 (z / 256 % 256), .int .u8 (z % 256)] 5)).heap.size) →
      Puts w v (xs ++ be4 z) (.returned v') w' := by
    intro u v' w' hu hon hg how
    refine ⟨v', rfl, ?_, ?_, ?_⟩
    · unfold Out; rw [List.length_append, ub_app]; exact hon
    · exact ((Touch.refl _ _).alloc _).grown hg (fun k hk => .inl (by show v.ownBlock = some k; rw [← hu]; exact hk))
    · intro g hgv
      rcases how with e | e
      · exact .inl (by rw [← hu, ← e]; exact hgv)
      · rw [e] at hgv; cases hgv; exact .inr (by simp)
  have HFin := Lib.hid fin
  clear fin
  rcases h.form with ⟨rfl, hn, hx⟩ | ⟨g, cap, rfl, hnc, hcm, how, hgl, hcell, hfr⟩
  · have hxs : xs = [] := List.eq_nil_of_length_eq_zero hn
    subst hxs
    clear hn hx
    have X := Lib.hid (show Out (w.alloc (.cells #[.int .u8 (z / 16777216 % 256), .int .u8 (z / 65536 % 256), .int .u8 (z / 256 % 256), .int .u8 (z % 256)] 5)) (.slice none 0 0) [] from Out.nil _)
    clear h
    go_enter Tryz.func93, Tryz.ntmps93
    go_wp2_with (at_builtin; refine wpList_append_on _ (by rfl) _ _ 82 (by rfl) 5 i0 _ 1 1 Tryz.underlying82 hi hz0 hz1 hz2 (by rfl) (by omega) (.slice none 0 0) 0 [] (by rfl) X.out (some ⟨w.heap.size, 0, none⟩) 4 4 (ub (be4 z)) (by rfl) (by rfl) (src_new w 5 4 (ub (be4 z))) (ub_one _) (by simp only [maxLen]; omega) (by omega) ?_; intro v' w' hon hg hv')
    go_ret
    exact HFin.out _ _ _ rfl hon hg hv'
  · have hcut := On.cut h (k := xs.length) (Nat.le_refl _)
    have e1 : (ub xs).take (xs.length * 1) = ub xs := by rw [Nat.mul_one, ← ub_len xs, List.take_length]
    rw [e1] at hcut
    have X := hcut.alloc (.cells #[.int .u8 (z / 16777216 % 256), .int .u8 (z / 65536 % 256), .int .u8 (z / 256 % 256), .int .u8 (z % 256)] 5)
    have l1 : (xs.length : Int) ≤ (cap : Int) := by omega
    have l0 : (0 : Int) ≤ (xs.length : Int) := by omega
    obtain ⟨n, hn⟩ : ∃ n, n = xs.length := ⟨_, rfl⟩
    have HL := Lib.hid hn
    rw [← hn] at l1 l0 X
    have hcm' : cap ≤ 9223372036854775807 := by simp only [maxLen] at hcm; omega
    have hn2 : n ≤ 1000000 := by omega
    rw [← hn]
    have X3 := Lib.hid X
    clear h hcut e1 hcell hfr hnc hl hn X
    go_enter Tryz.func93, Tryz.ntmps93
    go_wp2_with (at_builtin; refine wpList_append_on _ (by rfl) _ _ 82 (by rfl) 5 i0 _ 1 1 Tryz.underlying82 hi hz0 hz1 hz2 (by rfl) (by omega) (.slice (some ⟨g, 0, none⟩) n n) n (ub xs) (by rfl) X3.out (some ⟨w.heap.size, 0, none⟩) 4 4 (ub (be4 z)) (by rfl) (by rfl) (src_new w 5 4 (ub (be4 z))) (ub_one _) (by simp only [maxLen]; omega) (by omega) ?_; intro v' w' hon hg hv')
    go_ret
    have HF := HFin.out (.slice (some ⟨g, 0, none⟩) n n) _ _ (by rfl) (by rw [← HL.out]; exact hon) hg hv'
    rw [← HL.out] at HF
    exact HF

set_option maxRecDepth 100000 in
set_option maxHeartbeats 2000000 in
theorem put64_any (w : World) (v : Value) (xs : List Int) (z : Int) (h : Out w v xs) (hl : xs.length ≤ 900000) (h0 : 0 ≤ z) (h1 : z < 18446744073709551616) :
    Calls Tryz.prog 94 #[v, .int .u64 z] w (Puts w v (xs ++ be8 z)) := by
  have w1 : IntKind.u32.wrap (z / 4294967296) = z / 4294967296 := IntWalk.u32_in _ (by omega)
  have p1 := Lib.hid (put32_any w v xs (z / 4294967296) h (by omega) (by omega) (by omega))
  have hw2 : 0 ≤ IntKind.u32.wrap z ∧ IntKind.u32.wrap z < 4294967296 := by simp [IntKind.wrap, IntKind.bits, IntKind.signed]; omega
  have HE := Lib.hid (be4_wrap z)
  have HL := Lib.hid hl
  obtain ⟨y, hy⟩ : ∃ y, y = IntKind.u32.wrap z := ⟨_, rfl⟩
  have hy' := hy.symm
  rw [hy'] at HE hw2
  obtain ⟨x, hx⟩ : ∃ x, x = z / 4294967296 := ⟨_, rfl⟩
  have HX := Lib.hid hx
  have hx' := hx.symm
  rw [hx'] at p1 w1
  clear h hl hx hy
  go_enter Tryz.func94, Tryz.ntmps94
  go_wp2_with fail
  refine p1.out.mono ?_
  rintro e w1' ⟨v1, rfl, o1, t1, g1⟩
  have p2 := Lib.hid (put32_any w1' v1 (xs ++ be4 x) y o1 (by have := HL.out; rw [List.length_append]; simp [be4]; omega) hw2.1 hw2.2)
  clear p1 o1
  go_wp2_with fail
  refine p2.out.mono ?_
  rintro e w2' ⟨v2, rfl, o2, t2, g2⟩
  go_wp2_with fail
  go_ret
  have hs := t1.size
  refine ⟨v2, rfl, ?_, t1.trans t2 (fun k hk => g1 k hk), fun g hg => ?_⟩
  · have e : xs ++ be8 z = xs ++ be4 x ++ be4 y := by rw [HE.out, HX.out, List.append_assoc]; rfl
    rw [e]
    exact o2
  · rcases g2 g hg with e | e
    · exact g1 g e
    · exact .inr (by omega)
end Go.Proofs.YtckkpgopddnkiaaGreat.Byt
