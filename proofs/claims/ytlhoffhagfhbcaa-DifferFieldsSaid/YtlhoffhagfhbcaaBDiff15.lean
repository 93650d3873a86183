/-
  Texts joined: Rfly, Gholds. No condition.
-/
import Derived.Test.YtlhoffhagfhbcaaBDiff14
namespace Go.Proofs.Ytlhoffhagfhbcaa.Gm
open Go.RowKit Go.Sort Go.Proofs.Ytlhoffhagfhbcaa.Num
set_option linter.all false

/-- A block of one shot. -/
def XB (w : World) (g : Nat) (s : Shot) : Prop := Blk w g 27 (shoL s).toArray
section
variable {w w' : World} {g : Nat} {s : Shot}
theorem XB.at_ (h : XB w g s) {j : Nat} {v : Value} (e : (shoL s)[j]? = some v) : w.cell? ⟨g, j, none⟩ = some v := by
  rw [Blk.cell h j, List.getElem?_toArray, e]
theorem XB.c0 (h : XB w g s) : w.cell? ⟨g, 0, none⟩ = some (.bool (onB s.on)) := h.at_ (j := 0) rfl
theorem XB.c1 (h : XB w g s) : w.cell? ⟨g, 1, none⟩ = some (.int .i64 s.x) := h.at_ (j := 1) rfl
theorem XB.c2 (h : XB w g s) : w.cell? ⟨g, 2, none⟩ = some (.int .i64 s.y) := h.at_ (j := 2) rfl
theorem XB.c3 (h : XB w g s) : w.cell? ⟨g, 3, none⟩ = some (.int .i64 s.vx) := h.at_ (j := 3) rfl
theorem XB.c4 (h : XB w g s) : w.cell? ⟨g, 4, none⟩ = some (.int .i64 s.owner) := h.at_ (j := 4) rfl
theorem XB.c5 (h : XB w g s) : w.cell? ⟨g, 5, none⟩ = some (.int .i64 s.frames) := h.at_ (j := 5) rfl
theorem XB.fz (h : XB w g s) (j : Nat) : w.frozen? ⟨g, j, none⟩ = false := Blk.frozen h j
theorem XB.x (h : XB w g s) (z : Int) : XB (w.setCell ⟨g, 1, none⟩ (.int .i64 z)) g { s with x := z } := Blk.set_ h 1 _
theorem XB.frames (h : XB w g s) (z : Int) : XB (w.setCell ⟨g, 5, none⟩ (.int .i64 z)) g { s with frames := z } := Blk.set_ h 5 _
end
/-- 'x := ..' of a shot: a block laid and stored whole. -/
theorem alloc_shot (w : World) (L : List Value) (s : Shot) (hL : L = shoL s) : ∃ W3, (storeCells ⟨w.heap.size, 0, none⟩ L).run Try.prog (w.alloc (.cells #[.bool false, .int .i64 0, .int .i64 0, .int .i64 0, .int .i64 0, .int .i64 0] 27)) = .ok () W3 ∧ XB W3 w.heap.size s ∧ Below w.heap.size w W3 ∧ w.heap.size + 1 = W3.heap.size := by
  have hX : Blk (w.alloc (.cells #[.bool false, .int .i64 0, .int .i64 0, .int .i64 0, .int .i64 0, .int .i64 0] 27)) w.heap.size 27 #[.bool false, .int .i64 0, .int .i64 0, .int .i64 0, .int .i64 0, .int .i64 0] := Blk.new _ _ _
  subst hL
  have := run_storeCells_from (P := Try.prog) w.heap.size 27 (shoL s) 0 _ _ hX (by simp [shoL]) (fun v hv => (Array.all_eq_true_iff_forall_mem.1 (shoL_one s)) v (by simpa using hv))
  refine ⟨_, this, ?_, ?_, by simp⟩
  · exact hX.setRow _
  · exact ((Below.refl _ w).alloc (Nat.le_refl _) _).trans ((touch_setRow _ w.heap.size _).below (by simp) (fun k hk => by omega))

theorem setB_life2 (f : F) (o : Nat) (v : Int) : setB f o { bod f o with life := v } = put f (o + 4) v := by
  funext k
  unfold setB bod put
  (repeat' split) <;> (first | rfl | omega | (subst_vars; rfl))
/-- What lies there while a shot flies: the state, the buttons, the result, the shot. -/
structure FlyX (w W : World) (gx : Nat) (f : F) (n0 n1 : Nat) (s : Shot) : Prop where
  st : SB W w.heap.size 31 f
  inp : Blk W (w.heap.size + 1) 69 #[.int .u16 n0, .int .u16 n1]
  res : Blk W (w.heap.size + 2) 31 Try.zeroCells31
  sh : XB W gx s
  lo : RowKit.Below w.heap.size w W
  gt : w.heap.size + 2 < gx
section
variable {w W W' : World} {gx : Nat} {f f' : F} {n0 n1 : Nat} {s s' : Shot}
theorem FlyX.below (h : FlyX w W gx f n0 n1 s) (hb : RowKit.Below W.heap.size W W') : FlyX w W' gx f n0 n1 s :=
  ⟨h.st.below hb h.st.lt, h.inp.below hb h.inp.lt, h.res.below hb h.res.lt, Blk.below h.sh hb (Blk.lt h.sh), h.lo.trans (hb.mono h.lo.size), h.gt⟩
theorem FlyX.setG (h : FlyX w W gx f n0 n1 s) (j : Nat) (u : Value) (hs : SB (W.setCell ⟨w.heap.size, j, none⟩ u) w.heap.size 31 f') : FlyX w (W.setCell ⟨w.heap.size, j, none⟩ u) gx f' n0 n1 s :=
  ⟨hs, Blk.far h.inp (by simp) u, Blk.far h.res (by simp) u, Blk.far h.sh (by have := h.gt; simp; omega) u, h.lo.setCell (by simp) u, h.gt⟩
theorem FlyX.cellsG (h : FlyX w W gx f n0 n1 s) (o : Nat) (L : List Value) (hs : SB (W.setCells w.heap.size o L) w.heap.size 31 f') : FlyX w (W.setCells w.heap.size o L) gx f' n0 n1 s := by
  have T : Touch (fun k => k = w.heap.size) W (W.setCells w.heap.size o L) := touch_setCells (S := fun k => k = w.heap.size) (Touch.refl _ _) _ (.inl rfl) _ _
  have := h.gt
  exact ⟨hs, h.inp.touch T (by omega), h.res.touch T (by omega), Blk.touch h.sh T (by omega), h.lo.trans (T.below h.lo.size (fun k hk => by omega)), h.gt⟩
theorem FlyX.setX (h : FlyX w W gx f n0 n1 s) (j : Nat) (u : Value) (hs : XB (W.setCell ⟨gx, j, none⟩ u) gx s') : FlyX w (W.setCell ⟨gx, j, none⟩ u) gx f n0 n1 s' :=
  have := h.gt
  ⟨SB.far h.st (by simp; omega) u, Blk.far h.inp (by simp; omega) u, Blk.far h.res (by simp; omega) u, hs, h.lo.setCell (by simp; omega) u, h.gt⟩
theorem FlyX.far (h : FlyX w W gx f n0 n1 s) {gb : Nat} (hg : gx < gb) (j : Nat) (u : Value) : FlyX w (W.setCell ⟨gb, j, none⟩ u) gx f n0 n1 s :=
  have := h.gt
  ⟨SB.far h.st (by simp; omega) u, Blk.far h.inp (by simp; omega) u, Blk.far h.res (by simp; omega) u, Blk.far h.sh (by simp; omega) u, h.lo.setCell (by simp; omega) u, h.gt⟩
theorem FlyX.touch (h : FlyX w W gx f n0 n1 s) {gb : Nat} (hg : gx < gb) (T : Touch (fun k => k = gb) W W') : FlyX w W' gx f n0 n1 s :=
  have := h.gt
  ⟨h.st.touch T (by omega), h.inp.touch T (by omega), h.res.touch T (by omega), Blk.touch h.sh T (by omega), h.lo.trans (T.below h.lo.size (fun k hk => by omega)), h.gt⟩
end

set_option maxRecDepth 100000 in
set_option maxHeartbeats 8000000 in
theorem rfly_any (w : World) (C : Array Value) (f : F) (fr sc : Int) (k : Nat) (n : Nat → Nat) (LC : Let C f) (hk : k < 8) (hn : ∀ i, i < 2 → n i < 65536) (hI : Inv fr sc f) (hsc : sc ≤ 4611686018427387904) (hon : f (16 + k * 6) ≠ 0) :
    Calls Try.prog 109 #[.agg C, .int .i64 k, inV n] w fun e w' => ∃ C', Let C' (flyF f k n) ∧ e = .returned (.agg C') ∧ Below w.heap.size w w' := by
  obtain ⟨s0, hs0⟩ : ∃ s, s = sho f (16 + k * 6) := ⟨_, rfl⟩
  have hin : ShotIn s0 := by rw [hs0]; exact (hI.s k hk).resolve_left fun e => hon (congrArg Shot.on e)
  have x0 := hin.x0
  have x1 := hin.x1
  have vx : -393216 ≤ s0.vx ∧ s0.vx ≤ 393216 := by rcases hin.vx with e | e <;> omega
  have r0 := hin.f0
  have r1 := hin.f1
  have y0 := hin.y0
  have y1 := hin.y1
  have HF := Lib.hid (show flyF f k n = if goneV (flown (sho f (16 + k * 6))) then setS f (16 + k * 6) zeroS
    else if hitsV (flown (sho f (16 + k * 6))) (bod f (2 + whoV (flown (sho f (16 + k * 6))) * 7)) then hurtF (setS f (16 + k * 6) zeroS) (whoV (flown (sho f (16 + k * 6)))) (n (whoV (flown (sho f (16 + k * 6)))))
    else setS f (16 + k * 6) (flown (sho f (16 + k * 6))) from rfl)
  rw [← hs0] at HF
  have hh := hold_bd (s0.x + s0.vx)
  have HFL := Lib.hid (show flown s0 = { s0 with x := hold (s0.x + s0.vx), frames := s0.frames - 1 } from rfl)
  have hwl := whoV_lt (flown s0)
  have how : (flown s0).owner = 1 - (whoV (flown s0) : Int) ∧ (whoV (flown s0) : Int) = if s0.owner % 2 = 0 then 1 else 0 := by
    show s0.owner = 1 - ((if s0.owner % 2 = 0 then 1 else 0 : Nat) : Int) ∧ ((if s0.owner % 2 = 0 then 1 else 0 : Nat) : Int) = _
    rcases hin.ow with e | e <;> rw [e] <;> simp
  have hz := hI.setS hk (.inl rfl : ShotOk zeroS)
  obtain ⟨who, hwho⟩ : ∃ who, whoV (flown s0) = who := ⟨_, rfl⟩
  rw [hwho] at HF hwl how
  have hbk := hI.b who hwl
  have hzs0 := hz.seed0
  have hzs1 := hz.seed1
  have hzq : 0 ≤ (setS f (16 + k * 6) zeroS) (64 + (1 - who)) ∧ (setS f (16 + k * 6) zeroS) (64 + (1 - who)) ≤ sc := by
    have : 1 - who = 0 ∨ 1 - who = 1 := by omega
    rcases this with e | e <;> rw [e]
    · exact ⟨hz.p0, hz.p1⟩
    · exact ⟨hz.q0, hz.q1⟩
  have HQ := Lib.hid (show (0 ≤ (setS f (16 + k * 6) zeroS) (64 + (1 - who)) ∧ (setS f (16 + k * 6) zeroS) (64 + (1 - who)) ≤ sc) ∧ sc ≤ 4611686018427387904 ∧ 0 ≤ (setS f (16 + k * 6) zeroS) 1 ∧ (setS f (16 + k * 6) zeroS) 1 < 4294967296 from ⟨hzq, hsc, hzs0, hzs1⟩)
  have HBK := Lib.hid hbk
  have HK := Lib.hid hk
  have HW := Lib.hid hwl
  have HO := Lib.hid how
  have HN := Lib.hid (hn who hwl)
  have k1 : (0 : Int) ≤ (k : Int) := by omega
  have k2 : (k : Int) < 8 := by omega
  -- the three blocks
  obtain ⟨W1, hW1⟩ : ∃ W1, W1 = ((w.alloc (.cells C 31)).alloc (.cells #[.int .u16 (n 0), .int .u16 (n 1)] 69)).alloc (.cells Try.zeroCells31 31) := ⟨_, rfl⟩
  have hS : SB W1 w.heap.size 31 f := by
    rw [hW1]
    exact ((LC.sb (Blk.new w 31 C)).alloc _).alloc _
  have hP : Blk W1 (w.heap.size + 1) 69 #[.int .u16 (n 0), .int .u16 (n 1)] := by
    rw [hW1]
    have := (Blk.new (w.alloc (.cells C 31)) 69 #[.int .u16 (n 0), .int .u16 (n 1)]).alloc (.cells Try.zeroCells31 31)
    simpa using this
  have hR : Blk W1 (w.heap.size + 2) 31 Try.zeroCells31 := by
    rw [hW1]
    have := Blk.new ((w.alloc (.cells C 31)).alloc (.cells #[.int .u16 (n 0), .int .u16 (n 1)] 69)) 31 Try.zeroCells31
    simpa using this
  have hB : Below w.heap.size w W1 := by rw [hW1]; exact (((Below.refl _ w).alloc (Nat.le_refl _) _).alloc (by simp) _).alloc (by simp; omega) _
  have hz3 : w.heap.size + 3 = W1.heap.size := by rw [hW1]; simp
  have hrS := hS.shoR hk
  rw [← hs0] at hrS
  obtain ⟨Ls, hLs⟩ : ∃ Ls, Ls = shoL s0 := ⟨_, rfl⟩
  rw [← hLs] at hrS
  have hLn : Ls.length = 6 := by rw [hLs]; rfl
  have hiS : (Try.prog.info? 27).map (·.size) = some Ls.length := by rw [hLn]; exact infoS
  have HA := Lib.hid (fun W => alloc_shot W Ls s0 hLs)
  have pA := Lib.hid (fun W => Num.add_any W s0.x s0.vx (by omega) (by omega) (by omega) (by omega))
  have cbx : ∀ W, Blk W (w.heap.size + 1) 69 #[.int .u16 (n 0), .int .u16 (n 1)] → W.cell? ⟨w.heap.size + 1, who, none⟩ = some (.int .u16 (n who)) := by
    intro W hW
    have := hW.cell who
    rw [this]
    have e : who = 0 ∨ who = 1 := by omega
    rcases e with rfl | rfl <;> rfl
  have CBX := Lib.hid cbx
  obtain ⟨n0, hn0⟩ : ∃ n0, n 0 = n0 := ⟨_, rfl⟩
  obtain ⟨n1, hn1⟩ : ∃ n1, n 1 = n1 := ⟨_, rfl⟩
  unfold inV
  rw [hn0, hn1] at hW1 CBX hP ⊢
  have hE1 := fun W gx (hb : RowKit.Below W1.heap.size W1 W) (hx : XB W gx s0) (hg : w.heap.size + 3 ≤ gx) => (⟨hS.below hb hS.lt, hP.below hb hP.lt, hR.below hb hR.lt, hx, hB.trans (hb.mono hB.size), by omega⟩ : FlyX w W gx f n0 n1 s0)
  have HE1 := Lib.hid hE1
  have HZ := Lib.hid hz3
  clear hS hR hP hB hI hon hk hn hin hs0 hz hbk hzs0 hzs1 hzq hwl cbx hsc how hLs hE1 hz3 hn0 hn1 LC
  have HWH := Lib.hid hwho
  clear hwho
  generalize hold (s0.x + s0.vx) = xv at *
  go_enter Try.func109, Try.ntmps109
  go_upto_region 1 with fail
  rw [← hW1]
  clear hW1
  obtain ⟨W2, hrun, X2, b2, hz2⟩ := HA.out W1
  clear HA
  go_upto_region 2 with (refine wpList_load_mid (by rfl) 27 _ (by rfl) w.heap.size (16 + k * 6) (by rfl) Ls _ hrS Try.underlying27 (by rfl) hiS ?_)
  clear hrun hrS hiS hLn
  have E2 := HE1.out W2 W1.heap.size b2 X2 (by have := HZ.out; omega)
  generalize W1.heap.size = gx at *
  clear HE1 HZ X2 b2 hz2
  have hgx := Lib.hid E2.gt
  have c1 := E2.sh.c1
  have c3 := E2.sh.c3
  have HE2 := Lib.hid E2
  clear E2
  go_wp2_with fail
  refine (pA.out _).mono ?_
  rintro e W3 ⟨rfl, b3⟩
  have E3 := HE2.out.below b3
  clear HE2 b3 pA c1 c3
  have c1 := E3.sh.c1
  have f1 := E3.sh.fz 1
  have E4 := E3.setX 1 (.int .i64 xv) (E3.sh.x xv)
  have HE4 := Lib.hid E4
  clear E3 E4
  go_upto_region 3 with fail
  clear c1 f1
  generalize W3.setCell ⟨gx, 1, none⟩ (.int .i64 xv) = W4 at *
  have E4 := HE4.out
  have c5 := E4.sh.c5
  have f5 := E4.sh.fz 5
  dsimp only at c5
  have E5 := E4.setX 5 (.int .i64 (s0.frames - 1)) (E4.sh.frames (s0.frames - 1))
  have HE5 := Lib.hid E5
  clear E4 E5 HE4
  go_upto_region 4 with fail
  clear c5 f5
  generalize W4.setCell ⟨gx, 5, none⟩ (.int .i64 (s0.frames - 1)) = W5 at *
  have E5 : FlyX w W5 gx f n0 n1 (flown s0) := by rw [HFL.out]; exact HE5.out
  have hsx : (flown s0).x = xv := by rw [HFL.out]
  have hsf : (flown s0).frames = s0.frames - 1 := by rw [HFL.out]
  have hso : (flown s0).owner = s0.owner := by rw [HFL.out]
  have hsy : (flown s0).y = s0.y := by rw [HFL.out]
  rw [← hso] at HO
  have hx2 : -9223372036854775808 ≤ (flown s0).x ∧ (flown s0).x ≤ 9223372036854775807 := by omega
  have hy2 : -9223372036854775808 ≤ (flown s0).y ∧ (flown s0).y ≤ 9223372036854775807 := by omega
  clear hsx hsf hso hsy x0 x1 vx r0 r1 y0 y1 hh HFL HE5
  generalize flown s0 = s at *
  have hbS := E5.sh
  obtain ⟨Vs, hVs⟩ : ∃ Vs, Vs = (shoL s).toArray := ⟨_, rfl⟩
  unfold XB at hbS
  rw [← hVs] at hbS
  have hiV : (Try.prog.info? 27).map (·.size) = some Vs.size := by rw [hVs]; exact infoS
  have hoV : Vs.all (·.oneCell') = true := by rw [hVs]; exact shoL_one s
  have htV : W5.there w.heap.size (16 + k * 6) Vs.size := by rw [hVs]; exact E5.st.there (by have := HK.out; simp [shoL]; omega)
  obtain ⟨W6, hW6⟩ : ∃ W6, W5.setCells w.heap.size (16 + k * 6) Vs.toList = W6 := ⟨_, rfl⟩
  have E6 : FlyX w W6 gx (setS f (16 + k * 6) s) n0 n1 s := by
    rw [← hW6, hVs]
    exact E5.cellsG _ _ (E5.st.setShot HK.out s)
  have HW6 := Lib.hid hW6
  have HiV := Lib.hid hiV
  have HoV := Lib.hid hoV
  have HtV := Lib.hid htV
  have HbS := Lib.hid hbS
  have HE6 := Lib.hid E6
  clear hW6 hiV hoV htV hVs E6 E5 hbS
  go_upto_region 5 with (first | (refine wpList_load_blk (by rfl) 27 _ (by rfl) gx (by rfl) _ Vs _ HbS.out Try.underlying27 (by rfl) HiV.out ?_) | (refine wpList_store_midw (by rfl) 27 _ _ (by rfl) w.heap.size (16 + k * 6) Vs (by rfl) (by rfl) HtV.out HiV.out HoV.out W6 HW6.out ?_) | fail)
  clear HW6 HiV HoV HtV HbS hgx
  have E6 := HE6.out
  have c1 := E6.sh.c1
  have c5 := E6.sh.c5
  have E7 := E6.cellsG (16 + k * 6) [.bool false, .int .i64 0, .int .i64 0, .int .i64 0, .int .i64 0, .int .i64 0] (f' := setS f (16 + k * 6) zeroS) (by
    have := E6.st.setShot HK.out zeroS
    rwa [setS_setS] at this)
  have htZ : W6.there w.heap.size (16 + k * 6) 6 := E6.st.there (by have := HK.out; omega)
  obtain ⟨W7, hW7⟩ : ∃ W7, W6.setCells w.heap.size (16 + k * 6) [.bool false, .int .i64 0, .int .i64 0, .int .i64 0, .int .i64 0, .int .i64 0] = W7 := ⟨_, rfl⟩
  rw [hW7] at E7
  have HW7 := Lib.hid hW7
  have HE7 := Lib.hid E7
  have HTZ := Lib.hid htZ
  clear hW7 E7 htZ E6
  by_cases g1 : s.frames ≤ 0
  · have c' : decide (s.frames ≤ 0) = true := by simpa using g1
    have HF2 := HF.out
    rw [if_pos (show goneV s = true by simp [goneV]; omega)] at HF2
    have HF3 := Lib.hid HF2
    clear HF2 HF g1
    go_upto_region 7 with (first | (refine wpList_store_midw (by rfl) 27 _ _ (by rfl) w.heap.size (16 + k * 6) #[.bool false, .int .i64 0, .int .i64 0, .int .i64 0, .int .i64 0, .int .i64 0] (by rfl) (by rfl) HTZ.out infoS (by simp [Value.oneCell']) W7 HW7.out ?_) | fail)
    clear c1 c5 c'
    have S9 := HE7.out.st
    rw [← HF3.out] at S9
    obtain ⟨C9, LC9⟩ := let_of (flyF f k n)
    have hS9 := LC9.blk S9
    have R9 := HE7.out.res
    have B9 := HE7.out.lo
    have hzs : Try.zeroCells31.size = C9.size := by rw [LC9.size, ← stA_zero]; exact stA_size _
    have hif := LC9.info
    have hone := LC9.one
    have HC9 := Lib.hid LC9
    clear LC9
    go_wp2_with (first | (refine wpList_load_blk (by rfl) 31 _ (by rfl) w.heap.size (by rfl) _ C9 _ hS9 Try.underlying31 (by rfl) hif ?_) | (refine wpList_store_blk (by rfl) 31 _ _ (by rfl) (w.heap.size + 1 + 1) C9 (by rfl) (by rfl) _ _ R9 hif hzs hone ?_; intro W6 hd6 ht6) | fail)
    refine bodyPost_ret (v := .agg C9) (results_blk Try.results109 _ _ (w.heap.size + 1 + 1) _ _ _ (by rfl) hd6 Try.underlying31 (by rfl) hif) rfl ⟨C9, HC9.out, rfl, ?_⟩
    exact B9.trans (ht6.below B9.size (fun k hk => by omega))
  have d1 : decide (s.frames ≤ 0) = false := by simpa using g1
  by_cases g2 : s.x < 0
  · have c' : decide (s.x < 0) = true := by simpa using g2
    have HF2 := HF.out
    rw [if_pos (show goneV s = true by simp [goneV]; omega)] at HF2
    have HF3 := Lib.hid HF2
    clear HF2 HF g2
    go_upto_region 7 with (first | (refine wpList_store_midw (by rfl) 27 _ _ (by rfl) w.heap.size (16 + k * 6) #[.bool false, .int .i64 0, .int .i64 0, .int .i64 0, .int .i64 0, .int .i64 0] (by rfl) (by rfl) HTZ.out infoS (by simp [Value.oneCell']) W7 HW7.out ?_) | fail)
    clear c1 c5 c'
    have S9 := HE7.out.st
    rw [← HF3.out] at S9
    obtain ⟨C9, LC9⟩ := let_of (flyF f k n)
    have hS9 := LC9.blk S9
    have R9 := HE7.out.res
    have B9 := HE7.out.lo
    have hzs : Try.zeroCells31.size = C9.size := by rw [LC9.size, ← stA_zero]; exact stA_size _
    have hif := LC9.info
    have hone := LC9.one
    have HC9 := Lib.hid LC9
    clear LC9
    go_wp2_with (first | (refine wpList_load_blk (by rfl) 31 _ (by rfl) w.heap.size (by rfl) _ C9 _ hS9 Try.underlying31 (by rfl) hif ?_) | (refine wpList_store_blk (by rfl) 31 _ _ (by rfl) (w.heap.size + 1 + 1) C9 (by rfl) (by rfl) _ _ R9 hif hzs hone ?_; intro W6 hd6 ht6) | fail)
    refine bodyPost_ret (v := .agg C9) (results_blk Try.results109 _ _ (w.heap.size + 1 + 1) _ _ _ (by rfl) hd6 Try.underlying31 (by rfl) hif) rfl ⟨C9, HC9.out, rfl, ?_⟩
    exact B9.trans (ht6.below B9.size (fun k hk => by omega))
  have d2 : decide (s.x < 0) = false := by simpa using g2
  by_cases g3 : 13107200 < s.x
  · have c' : decide (13107200 < s.x) = true := by simpa using g3
    have HF2 := HF.out
    rw [if_pos (show goneV s = true by simp [goneV]; omega)] at HF2
    have HF3 := Lib.hid HF2
    clear HF2 HF g3
    go_upto_region 7 with (first | (refine wpList_store_midw (by rfl) 27 _ _ (by rfl) w.heap.size (16 + k * 6) #[.bool false, .int .i64 0, .int .i64 0, .int .i64 0, .int .i64 0, .int .i64 0] (by rfl) (by rfl) HTZ.out infoS (by simp [Value.oneCell']) W7 HW7.out ?_) | fail)
    clear c1 c5 c'
    have S9 := HE7.out.st
    rw [← HF3.out] at S9
    obtain ⟨C9, LC9⟩ := let_of (flyF f k n)
    have hS9 := LC9.blk S9
    have R9 := HE7.out.res
    have B9 := HE7.out.lo
    have hzs : Try.zeroCells31.size = C9.size := by rw [LC9.size, ← stA_zero]; exact stA_size _
    have hif := LC9.info
    have hone := LC9.one
    have HC9 := Lib.hid LC9
    clear LC9
    go_wp2_with (first | (refine wpList_load_blk (by rfl) 31 _ (by rfl) w.heap.size (by rfl) _ C9 _ hS9 Try.underlying31 (by rfl) hif ?_) | (refine wpList_store_blk (by rfl) 31 _ _ (by rfl) (w.heap.size + 1 + 1) C9 (by rfl) (by rfl) _ _ R9 hif hzs hone ?_; intro W6 hd6 ht6) | fail)
    refine bodyPost_ret (v := .agg C9) (results_blk Try.results109 _ _ (w.heap.size + 1 + 1) _ _ _ (by rfl) hd6 Try.underlying31 (by rfl) hif) rfl ⟨C9, HC9.out, rfl, ?_⟩
    exact B9.trans (ht6.below B9.size (fun k hk => by omega))
  have d3 : decide (13107200 < s.x) = false := by simpa using g3
  have HF2 := HF.out
  rw [if_neg (show ¬ goneV s = true by simp [goneV]; omega)] at HF2
  have HF3 := Lib.hid HF2
  clear HF2 HF
  go_upto_region 9 with fail
  clear c1 c5 g1 g2 g3 d1 d2 d3
  have hcell := HE6.out.sh.c4
  rw [HO.out.1] at hcell
  have hwk : (0 : Int) ≤ 1 - (who : Int) ∧ 1 - (who : Int) < 2 := by have := HW.out; omega
  go_upto_if 49 with fail
  go_cut [8] (fun v8 wx => v8 = .int .i64 who ∧ wx = W6)
  case first =>
    have e : who = 0 ∨ who = 1 := by have := HW.out; omega
    rcases e with rfl | rfl
    · go_wp2_with fail
      go_meet
      exact ⟨by first | rfl | trivial, by first | rfl | trivial⟩
    · go_wp2_with fail
      go_meet
      exact ⟨by first | rfl | trivial, by first | rfl | trivial⟩
  case rest =>
    obtain ⟨rfl, rfl⟩ := hcut
    clear hcell hwk HTZ HE7 HW7
    have w1 : (0 : Int) ≤ (who : Int) := by omega
    have w2 : (who : Int) < 2 := by have := HW.out; omega
    have hbe : bod (setS f (16 + k * 6) s) (2 + who * 7) = bod f (2 + who * 7) := bod_congr (fun j h1 h2 => setS_out _ _ _ (by have := HW.out; omega))
    have hrB := HE6.out.st.bodR HW.out
    rw [hbe] at hrB
    have hbz : bod (setS f (16 + k * 6) zeroS) (2 + who * 7) = bod f (2 + who * 7) := bod_congr (fun j h1 h2 => setS_out _ _ _ (by have := HW.out; omega))
    have HBZ := Lib.hid hbz
    obtain ⟨b, hb⟩ : ∃ b, bod f (2 + who * 7) = b := ⟨_, rfl⟩
    rw [hb] at hrB HBK HF3 HBZ
    have hy0 := HBK.out.y0
    have hy1 := HBK.out.y1
    have hx0 := HBK.out.x0
    have hx1 := HBK.out.x1
    have hhy := hold_bd (b.y + 65536)
    have HHV := Lib.hid (show hitsV s b = (nearV s.x b.x 262144 && nearV s.y (hold (b.y + 65536)) 393216) from rfl)
    obtain ⟨Lb, hLb⟩ : ∃ Lb, Lb = bodL b := ⟨_, rfl⟩
    rw [← hLb] at hrB
    have hLs : Lb.length = 7 := by rw [hLb]; rfl
    have hiB : (Try.prog.info? 24).map (·.size) = some Lb.length := by rw [hLs]; exact infoB
    obtain ⟨W8, hrun, M8, b8, hz8⟩ := alloc_body wc Lb b hLb
    clear hbe hbz hb hLb
    go_upto_region 12 with (refine wpList_load_mid (by rfl) 24 _ (by rfl) w.heap.size (2 + who * 7) (by rfl) Lb _ hrB Try.underlying24 (by rfl) hiB ?_)
    clear hrun hrB hiB hLs
    have E8 := HE6.out.below b8
    have hgb : gx < wc.heap.size := Blk.lt HE6.out.sh
    clear HE6 b8 hz8
    generalize wc.heap.size = gb at *
    have c1 := E8.sh.c1
    have c2 := E8.sh.c2
    have m0 := M8.c0
    have m1 := M8.c1
    have cN1 := regrown W8 (v := .bool (nearV s.x b.x 262144)) (fun W _ => rnear_any W s.x b.x 262144 hx2.1 hx2.2 (by omega) (by omega))
    have cA := regrown W8 (v := .int .i64 (hold (b.y + 65536))) (fun W _ => Num.add_any W b.y 65536 (by omega) (by omega) (by omega) (by omega))
    generalize hold (b.y + 65536) = yv at *
    have cN2 := regrown W8 (v := .bool (nearV s.y yv 393216)) (fun W _ => rnear_any W s.y yv 393216 hy2.1 hy2.2 hhy.1 hhy.2)
    have d1 := cell_regrown c1
    have d2 := cell_regrown c2
    have d3 := cell_regrown m0
    have d4 := cell_regrown m1
    clear c1 c2 m0 m1 hx0 hx1 hy0 hy1 hhy
    generalize nearV s.x b.x 262144 = N1 at *
    generalize nearV s.y yv 393216 = N2 at *
    have HE8 := Lib.hid E8
    have HM8 := Lib.hid M8
    have HGB := Lib.hid hgb
    clear E8 M8 hgb
    go_cut [68] (fun v wx => v = .bool (!(N1 && N2)) ∧ RowKit.Below W8.heap.size W8 wx)
    case first =>
      cases N1
      · refine wp_region_quiet_below (by kernel_rfl) (by kernel_rfl) ?_
        repeat (quiet_step (fail))
        quiet_step (exact cN1 _ _)
        repeat (quiet_step (fail))
        refine wpQuiet_nil ?_
        intro W9 hw'
        obtain ⟨⟨dq, osq⟩, hw''⟩ := hw'
        have hb9 : Below W8.heap.size W8 W9 := by rw [hw'']; exact below_regrown _ _ _
        clear hw''
        go_wp2_with fail
        go_meet
        exact ⟨by first | rfl | trivial, hb9⟩
      · refine wp_region_quiet_below (by kernel_rfl) (by kernel_rfl) ?_
        repeat (quiet_step (fail))
        quiet_step (exact cN1 _ _)
        repeat (quiet_step (fail))
        quiet_step (exact cA _ _)
        repeat (quiet_step (fail))
        quiet_step (exact cN2 _ _)
        repeat (quiet_step (fail))
        refine wpQuiet_nil ?_
        intro W9 hw'
        obtain ⟨⟨dq, osq⟩, hw''⟩ := hw'
        have hb9 : Below W8.heap.size W8 W9 := by rw [hw'']; exact below_regrown _ _ _
        clear hw''
        go_wp2_with fail
        go_meet
        exact ⟨by first | rfl | trivial | simp, hb9⟩
    case rest =>
      obtain ⟨rfl, b9⟩ := hcut
      have E9 := HE8.out.below b9
      have M9 := HM8.out.below b9 (Blk.lt HM8.out)
      clear HE8 HM8 b9 cN1 cN2 cA d1 d2 d3 d4
      have hHV := HHV.out
      generalize (N1 && N2) = hv at *
      cases hv
      · have HF4 := HF3.out
        rw [hHV, if_neg (by simp)] at HF4
        have S9 := E9.st
        rw [← HF4] at S9
        have HR9 := Lib.hid E9.res
        have HB9 := Lib.hid E9.lo
        clear HF4 HF3 hHV HHV E9 M9
        go_upto_region 13 with fail
        obtain ⟨C9, LC9⟩ := let_of (flyF f k n)
        have hS9 := LC9.blk S9
        have R9 := HR9.out
        have B9 := HB9.out
        have hzs : Try.zeroCells31.size = C9.size := by rw [LC9.size, ← stA_zero]; exact stA_size _
        have hif := LC9.info
        have hone := LC9.one
        have HC9 := Lib.hid LC9
        clear LC9
        go_wp2_with (first | (refine wpList_load_blk (by rfl) 31 _ (by rfl) w.heap.size (by rfl) _ C9 _ hS9 Try.underlying31 (by rfl) hif ?_) | (refine wpList_store_blk (by rfl) 31 _ _ (by rfl) (w.heap.size + 1 + 1) C9 (by rfl) (by rfl) _ _ R9 hif hzs hone ?_; intro W6 hd6 ht6) | fail)
        refine bodyPost_ret (v := .agg C9) (results_blk Try.results109 _ _ (w.heap.size + 1 + 1) _ _ _ (by rfl) hd6 Try.underlying31 (by rfl) hif) rfl ⟨C9, HC9.out, rfl, ?_⟩
        exact B9.trans (ht6.below B9.size (fun k hk => by omega))
      · have HF4 := HF3.out
        rw [hHV, if_pos rfl] at HF4
        have HF5 := Lib.hid HF4
        have htZ : wc.there w.heap.size (16 + k * 6) 6 := E9.st.there (by have := HK.out; omega)
        have E10 := E9.cellsG (16 + k * 6) [.bool false, .int .i64 0, .int .i64 0, .int .i64 0, .int .i64 0, .int .i64 0] (f' := setS f (16 + k * 6) zeroS) (by
          have := E9.st.setShot HK.out zeroS
          rwa [setS_setS] at this)
        have hgxb := HGB.out
        have hgt := E9.gt
        have M10 : MB (wc.setCells w.heap.size (16 + k * 6) [.bool false, .int .i64 0, .int .i64 0, .int .i64 0, .int .i64 0, .int .i64 0]) gb b :=
          Blk.touch M9 (touch_setCells (S := fun k => k = w.heap.size) (Touch.refl _ _) _ (.inl rfl) _ _) (by omega)
        obtain ⟨W10, hW10⟩ : ∃ W10, wc.setCells w.heap.size (16 + k * 6) [.bool false, .int .i64 0, .int .i64 0, .int .i64 0, .int .i64 0, .int .i64 0] = W10 := ⟨_, rfl⟩
        rw [hW10] at E10 M10
        have HW10 := Lib.hid hW10
        have HTZ := Lib.hid htZ
        have HGT := Lib.hid hgt
        clear HF4 HF3 hHV HHV hW10 htZ hgxb hgt
        go_upto_region 15 with (first | (refine wpList_store_midw (by rfl) 27 _ _ (by rfl) w.heap.size (16 + k * 6) #[.bool false, .int .i64 0, .int .i64 0, .int .i64 0, .int .i64 0, .int .i64 0] (by rfl) (by rfl) HTZ.out infoS (by simp [Value.oneCell']) W10 HW10.out ?_) | fail)
        clear E9 M9 HTZ HW10
        generalize setS f (16 + k * 6) zeroS = z at *
        have hin := CBX.out W10 E10.inp
        have pH := Lib.hid (fun W => has_any W (n who) 32 HN.out (by omega) (by omega))
        have hsd := E10.st.seed
        have s0 := HQ.out.2.2.1
        have s1 := HQ.out.2.2.2
        have c4 := M10.c4
        have f4 := M10.fz 4
        have l0 := HBK.out.l0
        have l1 := HBK.out.l1
        obtain ⟨p, hp⟩ : ∃ p, p = painV (z 1) (n who) := ⟨_, rfl⟩
        have hpn : 1 ≤ p ∧ p ≤ 10 := by rw [hp]; exact painV_in s0 _
        have E11 := E10.far HGB.out 4 (.int .i64 (b.life - p))
        have M11 := M10.life (b.life - p)
        have HE11 := Lib.hid E11
        have HM11 := Lib.hid M11
        have HP := Lib.hid hp
        clear E11 M11 E10 M10 hp
        go_wp2_with fail
        refine (pH.out _).mono ?_
        rintro e w11 ⟨rfl, rfl⟩
        clear hin
        go_upto_if 77 with fail
        go_cut [77] (fun v77 wx => FlyX w wx gx z n0 n1 s ∧ MB wx gb { b with life := b.life - p })
        case first =>
          by_cases hbt : n who / 32 % 2 = 1
          · obtain ⟨m, hm⟩ : ∃ m : Nat, z 1 / 65536 = (m : Int) := ⟨(z 1 / 65536).toNat, by omega⟩
            have hm1 : m < 65536 := by omega
            have hpp : b.life - 4 - (m : Int) % 3 = b.life - p := by rw [HP.out]; unfold painV; rw [if_pos hbt, hm]; omega
            have e32 : decide (n who / 32 % 2 = 1) = true := by rw [hbt]; rfl
            rw [e32]
            clear e32 hbt HP pH hpn
            have HPP := Lib.hid hpp
            clear hpp
            go_wp2_with fail
            go_meet
            exact ⟨by rw [HPP.out]; exact HE11.out, by rw [HPP.out]; exact HM11.out⟩
          · have hpp : b.life - 10 = b.life - p := by rw [HP.out]; unfold painV; rw [if_neg hbt]
            have e32 : decide (n who / 32 % 2 = 1) = false := by simpa using hbt
            rw [e32]
            clear e32 hbt HP pH hpn
            have HPP := Lib.hid hpp
            clear hpp
            go_wp2_with fail
            go_meet
            exact ⟨by rw [HPP.out]; exact HE11.out, by rw [HPP.out]; exact HM11.out⟩
        case rest =>
          clear HE11 HM11 hsd s0 s1 c4 f4
          obtain ⟨E11, M11⟩ := hcut
          clear pH
          have c4 := M11.c4
          dsimp only at c4
          by_cases hl : 0 < b.life - p
          · have HFA := Lib.hid (show flyF f k n = setB z (2 + who * 7) { b with life := b.life - p } by
              rw [HF5.out]
              unfold hurtF
              rw [← HP.out, show z (2 + who * 7 + 4) = b.life from congrArg Body.life HBZ.out, if_pos hl, ← setB_life2 z (2 + who * 7) (b.life - p), HBZ.out])
            clear HF5
            go_upto_region 21 with fail
            clear c4
            obtain ⟨Vb, hVb⟩ : ∃ Vb, Vb = (bodL { b with life := b.life - p }).toArray := ⟨_, rfl⟩
            have hMV : Blk wc gb 24 Vb := by rw [hVb]; exact M11
            have hiV : (Try.prog.info? 24).map (·.size) = some Vb.size := by rw [hVb]; exact infoB
            have hoV : Vb.all (·.oneCell') = true := by rw [hVb]; exact bodL_one _
            have htV : wc.there w.heap.size (2 + who * 7) Vb.size := by rw [hVb]; exact E11.st.there (by have := HW.out; simp [bodL]; omega)
            obtain ⟨W12, hW12⟩ : ∃ W12, wc.setCells w.heap.size (2 + who * 7) Vb.toList = W12 := ⟨_, rfl⟩
            have E12 : FlyX w W12 gx (setB z (2 + who * 7) ({ b with life := b.life - p })) n0 n1 s := by
              rw [← hW12, hVb]
              exact E11.cellsG _ _ (E11.st.setBody HW.out _)
            have HW12 := Lib.hid hW12
            have HiV := Lib.hid hiV
            have HoV := Lib.hid hoV
            have HtV := Lib.hid htV
            have HMV := Lib.hid hMV
            have HE12 := Lib.hid E12
            clear hW12 hiV hoV htV hVb hMV E12
            go_upto_region 22 with (first | (refine wpList_load_blk (by rfl) 24 _ (by rfl) gb (by rfl) _ Vb _ HMV.out Try.underlying24 (by rfl) HiV.out ?_) | (refine wpList_store_midw (by rfl) 24 _ _ (by rfl) w.heap.size (2 + who * 7) Vb (by rfl) (by rfl) HtV.out HiV.out HoV.out W12 HW12.out ?_) | fail)
            have S9 := HE12.out.st
            rw [← HFA.out] at S9
            have HR9 := Lib.hid HE12.out.res
            have HB9 := Lib.hid HE12.out.lo
            clear HMV HtV HiV HoV HW12 HE12
            obtain ⟨C9, LC9⟩ := let_of (flyF f k n)
            have hS9 := LC9.blk S9
            have R9 := HR9.out
            have B9 := HB9.out
            have hzs : Try.zeroCells31.size = C9.size := by rw [LC9.size, ← stA_zero]; exact stA_size _
            have hif := LC9.info
            have hone := LC9.one
            have HC9 := Lib.hid LC9
            clear LC9
            go_wp2_with (first | (refine wpList_load_blk (by rfl) 31 _ (by rfl) w.heap.size (by rfl) _ C9 _ hS9 Try.underlying31 (by rfl) hif ?_) | (refine wpList_store_blk (by rfl) 31 _ _ (by rfl) (w.heap.size + 1 + 1) C9 (by rfl) (by rfl) _ _ R9 hif hzs hone ?_; intro W6 hd6 ht6) | fail)
            refine bodyPost_ret (v := .agg C9) (results_blk Try.results109 _ _ (w.heap.size + 1 + 1) _ _ _ (by rfl) hd6 Try.underlying31 (by rfl) hif) rfl ⟨C9, HC9.out, rfl, ?_⟩
            exact B9.trans (ht6.below B9.size (fun k hk => by omega))
          · have HFA := Lib.hid (show flyF f k n = setB (put z (64 + (1 - who)) (z (64 + (1 - who)) + 1)) (2 + who * 7) (bornB who) by
              rw [HF5.out]
              unfold hurtF
              rw [← HP.out, show z (2 + who * 7 + 4) = b.life from congrArg Body.life HBZ.out, if_neg hl])
            clear HF5
            obtain ⟨v, hv⟩ : ∃ v, 1 - who = v := ⟨_, rfl⟩
            have hv1 : (1 : Int) - (who : Int) = (v : Int) := by have := HW.out; omega
            have hv2 : v < 2 := by omega
            rw [hv] at HQ HFA
            clear hv
            go_upto_region 19 with fail
            clear c4
            have s1 := E11.st.score hv2
            have sf := E11.st.fr (64 + v)
            have q0 := HQ.out.1.1
            have q1 := HQ.out.1.2
            have q2 := HQ.out.2.1
            have hv3 : (0 : Int) ≤ (v : Int) := by omega
            have hv4 : (v : Int) < 2 := by omega
            have E12 := E11.setG (64 + v) (.int .i64 (z (64 + v) + 1)) (E11.st.setInt (j := 64 + v) (by omega) (by omega) (by omega) (z (64 + v) + 1))
            have hne : w.heap.size ≠ gb := by have := HGB.out; have := HGT.out; omega
            have M12 : MB (wc.setCell ⟨w.heap.size, 64 + v, none⟩ (.int .i64 (z (64 + v) + 1))) gb _ := Blk.far M11 (by simp; omega) (.int .i64 (z (64 + v) + 1))
            have HE12 := Lib.hid E12
            have HM12 := Lib.hid M12
            clear E11 M11 E12 M12
            go_upto_region 20 with fail
            clear s1 sf q0 q1 q2 hv3 hv4
            generalize wc.setCell ⟨w.heap.size, 64 + v, none⟩ (.int .i64 (z (64 + v) + 1)) = W12 at *
            obtain ⟨v0, hv0, hv00⟩ : ∃ v0, v0 = (bodL (bornB who)).toArray ∧ bodV (bornB who) = .agg v0 := ⟨_, rfl, rfl⟩
            have pB := Lib.hid (fun W => rborn_any W who HW.out)
            rw [hv00] at pB
            have HV0 := Lib.hid hv0
            clear hv0 hv00
            go_wp2_with fail
            refine (pB.out _).mono ?_
            rintro e W13 ⟨rfl, b13⟩
            have E13 := HE12.out.below b13
            have M13 := Blk.below HM12.out b13 (Blk.lt HM12.out)
            have hiv : (Try.prog.info? 24).map (·.size) = some v0.size := by rw [HV0.out]; exact infoB
            have hov : v0.all (·.oneCell') = true := by rw [HV0.out]; exact bodL_one _
            have hsv : (bodL { b with life := b.life - p }).toArray.size = v0.size := by rw [HV0.out]; rfl
            have HE13 := Lib.hid E13
            have HM13 := Lib.hid M13
            have Hiv := Lib.hid hiv
            have Hov := Lib.hid hov
            have Hsv := Lib.hid hsv
            clear HE12 HM12 E13 M13 hiv hov hsv b13 pB
            go_upto_region 21 with (first | (refine wpList_store_blk (by rfl) 24 _ _ (by rfl) gb v0 (by rfl) (by rfl) _ _ HM13.out Hiv.out Hsv.out Hov.out ?_; intro W14 M14 T14) | fail)
            have E14 := HE13.out.touch HGB.out T14
            have M14' : MB W14 gb (bornB who) := by unfold MB; rw [← HV0.out]; exact M14
            clear HE13 HM13 T14 M14 Hiv Hov Hsv HV0
            obtain ⟨Vb, hVb⟩ : ∃ Vb, Vb = (bodL (bornB who)).toArray := ⟨_, rfl⟩
            have hMV : Blk W14 gb 24 Vb := by rw [hVb]; exact M14'
            have hiV : (Try.prog.info? 24).map (·.size) = some Vb.size := by rw [hVb]; exact infoB
            have hoV : Vb.all (·.oneCell') = true := by rw [hVb]; exact bodL_one _
            have htV : W14.there w.heap.size (2 + who * 7) Vb.size := by rw [hVb]; exact E14.st.there (by have := HW.out; simp [bodL]; omega)
            obtain ⟨W15, hW15⟩ : ∃ W15, W14.setCells w.heap.size (2 + who * 7) Vb.toList = W15 := ⟨_, rfl⟩
            have E15 : FlyX w W15 gx (setB (put z (64 + v) (z (64 + v) + 1)) (2 + who * 7) ((bornB who))) n0 n1 s := by
              rw [← hW15, hVb]
              exact E14.cellsG _ _ (E14.st.setBody HW.out _)
            have HW15 := Lib.hid hW15
            have HiV := Lib.hid hiV
            have HoV := Lib.hid hoV
            have HtV := Lib.hid htV
            have HMV := Lib.hid hMV
            have HE15 := Lib.hid E15
            clear hW15 hiV hoV htV hVb hMV E15
            go_upto_region 22 with (first | (refine wpList_load_blk (by rfl) 24 _ (by rfl) gb (by rfl) _ Vb _ HMV.out Try.underlying24 (by rfl) HiV.out ?_) | (refine wpList_store_midw (by rfl) 24 _ _ (by rfl) w.heap.size (2 + who * 7) Vb (by rfl) (by rfl) HtV.out HiV.out HoV.out W15 HW15.out ?_) | fail)
            have S9 := HE15.out.st
            rw [← HFA.out] at S9
            have HR9 := Lib.hid HE15.out.res
            have HB9 := Lib.hid HE15.out.lo
            clear HMV HtV HiV HoV HW15 HE15
            obtain ⟨C9, LC9⟩ := let_of (flyF f k n)
            have hS9 := LC9.blk S9
            have R9 := HR9.out
            have B9 := HB9.out
            have hzs : Try.zeroCells31.size = C9.size := by rw [LC9.size, ← stA_zero]; exact stA_size _
            have hif := LC9.info
            have hone := LC9.one
            have HC9 := Lib.hid LC9
            clear LC9
            go_wp2_with (first | (refine wpList_load_blk (by rfl) 31 _ (by rfl) w.heap.size (by rfl) _ C9 _ hS9 Try.underlying31 (by rfl) hif ?_) | (refine wpList_store_blk (by rfl) 31 _ _ (by rfl) (w.heap.size + 1 + 1) C9 (by rfl) (by rfl) _ _ R9 hif hzs hone ?_; intro W6 hd6 ht6) | fail)
            refine bodyPost_ret (v := .agg C9) (results_blk Try.results109 _ _ (w.heap.size + 1 + 1) _ _ _ (by rfl) hd6 Try.underlying31 (by rfl) hif) rfl ⟨C9, HC9.out, rfl, ?_⟩
            exact B9.trans (ht6.below B9.size (fun k hk => by omega))
end Go.Proofs.Ytlhoffhagfhbcaa.Gm
namespace Go.Proofs.Ytlhoffhagfhbcaa.Gm
open Go.RowKit Go.Sort Go.Proofs.Ytlhoffhagfhbcaa.Num Go.Proofs.Ytlhoffhagfhbcaa.Eql
set_option linter.all false

theorem wpStill_load_blk {P : Program} {ops : Array Oper} {w : World} {Q : Act → Prop} {a : Act} {o : Oper} {rest : List Oper} (hgd : o.guard = none) (ty : TypeId) (x : Operand) (ho : o.op = .load ty x)
    (g : Nat) (hx : a.eval x = .pointer (some ⟨g, 0, none⟩)) (t : TypeId) (cs : Array Value) (d : TypeDesc) (hg : Blk w g t cs)
    (hu : P.underlying ty = some d) (hd : (match d with | .struct _ | .array _ _ => true | _ => false) = true) (hi : (P.info? ty).map (·.size) = some cs.size)
    (h : wpStill P ops w Q rest (a.put o.dst (.agg cs))) : wpStill P ops w Q (o :: rest) a := by
  refine wpStill_step fun K hK => ?_
  have hw : Region.wanted o (yielded ops a.tmps) = true := by simp [Region.wanted, hgd]
  rw [if_pos hw]
  unfold Oper.still execOp
  simp only [ho, hx, Instr.loadAt, Instr.sureAddr, Sem.run_bind, Sem.run_pure, Result.andThen_ok, run_loadVar_row w g t ty cs (0, 0) d hg hu hd hi]
  exact ⟨rfl, hK _ h⟩
set_option maxRecDepth 100000 in
set_option maxHeartbeats 8000000 in
theorem holds_law (w : World) (seed : Int) (h0 : 0 ≤ seed) (h1 : seed < 4294967296) (a : Option Addr) (c : Nat) (ls : List (Nat × Nat)) (hr : InRow w a ls) (hl : ls.length ≤ 9223372036854775807) :
    Calls Try.prog 8 #[.int .u32 seed, .slice a ls.length c] w fun e w' => e = .returned (.bool true) ∧ Below w.heap.size w w' := by
  have pA := Lib.hid (awake_any w)
  have pN := Lib.hid (fun W => new_any W seed h0 h1)
  have HI := Lib.hid (Inv.new seed h0 h1)
  obtain ⟨C, LC⟩ := let_of (newF seed)
  unfold stV at pN
  rw [← LC.eq] at pN
  have hcs := LC.size
  have HAS := Lib.hid (fun W => alloc_store W LC)
  have HR := Lib.hid hr
  clear LC hr
  generalize hF0 : newF seed = f0 at *
  clear hF0
  go_enter Try.func8, Try.ntmps8
  go_wp2_with fail
  refine pA.out.mono ?_
  rintro e w1 ⟨rfl, hb1⟩
  go_wp2_with fail
  refine (pN.out _).mono ?_
  rintro e w2 ⟨rfl, hb2⟩
  obtain ⟨W3, hrun, hS3, hB3, hz3⟩ := HAS.out w2
  have hz66' := hz66
  go_upto_region 4 with fail
  clear hrun hz66'
  have hz1 := hb1.size
  have hz2 := hb2.size
  have hBB := (hb1.trans (hb2.mono hz1)).trans (hB3.mono (by omega))
  obtain ⟨b0, hb0⟩ : ∃ b0, w2.heap.size = b0 := ⟨_, rfl⟩
  rw [hb0] at hS3 hz2
  have hlow : w.heap.size ≤ b0 := by omega
  rw [hb0]
  clear hb1 hb2 hB3 hz3 hb0 pA pN HAS hz1 hz2 hcs h0 h1
  go_wp2_with fail
  go_loopw [6] (fun iv wr => ∃ k : Nat, k ≤ ls.length ∧ k ≤ 300 ∧ iv = .int .i64 k ∧ SB wr b0 31 (playF f0 ls k) ∧ Below w.heap.size w wr) (fun iv _ => 300 - (intOf iv).toNat)
  case atStart => exact ⟨0, by omega, by omega, rfl, hS3, hBB⟩
  case round =>
    clear hS3 hBB
    obtain ⟨k, hk, hk3, rfl, hS, hB⟩ := hrel
    by_cases hlt : k < ls.length ∧ k < 300
    · have hlt1 := hlt.1
      obtain ⟨gb, ob, rfl, hgb, hcb⟩ := (HR.out.below hB).2 (by omega)
      obtain ⟨c0, c1⟩ := hcb k hlt.1
      have i0 : (k : Int) < (ls.length : Int) := by omega
      have i1 : (0 : Int) ≤ (k : Int) := by omega
      have i2 : decide ((k : Int) < 300) = true := by simp; omega
      have hInv := HI.out.play ls k
      have hInv2 := HI.out.play ls (k + 1)
      have hUp := up_step (playF f0 ls k) (inA ls k)
      have pS := Lib.hid (fun W => step_any W (playF f0 ls k) _ _ (inA ls k) (inA_lt HR.out.1 k) hInv (by omega) (by omega) (by omega))
      unfold inV stV at pS
      have HE := Lib.hid (show playF f0 ls (k + 1) = stepF (playF f0 ls k) (inA ls k) from rfl)
      have hUp' : (playF f0 ls k) 64 ≤ (playF f0 ls (k + 1)) 64 ∧ (playF f0 ls k) 65 ≤ (playF f0 ls (k + 1)) 65 := hUp
      rw [← HE.out] at pS
      have HL := Lib.hid hlt
      have s0 := hS.score (i := 0) (by omega)
      have s1 := hS.score (i := 1) (by omega)
      clear hUp hcb hlt hlt1 hInv
      obtain ⟨F1, hF1⟩ : ∃ F1, playF f0 ls (k + 1) = F1 := ⟨_, rfl⟩
      rw [hF1] at pS HE hInv2 hUp'
      have HF1 := Lib.hid hF1
      clear hF1
      generalize playF f0 ls k = F0 at *
      rw [Nat.add_zero] at s0
      rw [show 64 + 1 = 65 from rfl] at s1
      have HI2 := Lib.hid hInv2
      have HUp := Lib.hid hUp'
      clear hInv2 hUp'
      have hbw := (Blk.new wr 29 #[.int .i64 (F0 64), .int .i64 (F0 65)])
      have hS1 := hS.alloc (.cells #[.int .i64 (F0 64), .int .i64 (F0 65)] 29)
      have hB1 : Below w.heap.size w (wr.alloc (.cells #[.int .i64 (F0 64), .int .i64 (F0 65)] 29)) := hB.alloc hB.size _
      have k0 : (wr.alloc (.cells #[.int .i64 (F0 64), .int .i64 (F0 65)] 29)).cell? ⟨gb, ob + k * 2, none⟩ = some (.int .u16 (inA ls k 0)) := by rw [← c0]; exact (Below.refl _ wr).alloc (Nat.le_refl _) _ |>.cell (p := ⟨gb, ob + k * 2, none⟩) hgb
      have k1 : (wr.alloc (.cells #[.int .i64 (F0 64), .int .i64 (F0 65)] 29)).cell? ⟨gb, ob + k * 2 + 1, none⟩ = some (.int .u16 (inA ls k 1)) := by rw [← c1]; exact (Below.refl _ wr).alloc (Nat.le_refl _) _ |>.cell (p := ⟨gb, ob + k * 2 + 1, none⟩) hgb
      have hne : b0 ≠ wr.heap.size := by have := hS.lt; omega
      have hlb := hS.lt
      go_upto_region 8 with fail
      clear hS hB s0 s1 c0 c1
      generalize wr.heap.size = bw at *
      generalize wr.alloc (.cells #[.int .i64 (F0 64), .int .i64 (F0 65)] 29) = W4 at *
      obtain ⟨D, LD⟩ := let_of F0
      obtain ⟨E, LE⟩ := let_of F1
      rw [← LD.eq, ← LE.eq] at pS
      have hX := LD.blk hS1
      have hifD := LD.info
      refine wp_region_still_tail 5 (by kernel_rfl) (by kernel_rfl) ?_
      simp only [List.take_succ_cons, List.take_zero, List.drop_succ_cons, List.drop_zero]
      refine wpStill_load_blk (by rfl) 31 _ (by rfl) b0 (by rfl) _ D _ hX.drew Try.underlying31 (by rfl) hifD ?_
      iterate 4 still_step
      refine wpStill_nil ?_
      change wpList _ _ _ _ _ (World.drew _)
      go_wp2_with fail
      refine (pS.out _).mono ?_
      rintro e W5 ⟨rfl, hb5⟩
      have hb5' : Below W4.heap.size W4 W5 := ⟨hb5.os, hb5.tape, hb5.output, hb5.size, hb5.block⟩
      have hz5 := hb5'.size
      have hX5 := hX.below hb5' hX.lt
      have hw5 := hbw.below hb5' hbw.lt
      have hB5 := hB1.trans (hb5'.mono hB1.size)
      have hDE : D.size = E.size := by rw [LD.size, LE.size]
      have hifE := LE.info
      have honeE := LE.one
      have LE' := Lib.hid LE
      clear hb5 hb5' hX hS1 hbw hB1 k0 k1 LD hifD pS LE
      go_upto_region 9 with (refine wpList_store_blk (by rfl) 31 _ _ (by rfl) b0 E (by rfl) (by rfl) _ D hX5 hifE hDE honeE ?_; intro W6 hX6 hT6)
      have hS6 := LE'.out.sb hX6
      have hw6 := hw5.touch hT6 (by omega)
      have hB6 := hB5.trans (hT6.below hB5.size (fun k hk => by omega))
      clear hX5 hw5 hB5 hifE hDE honeE LE' hX6 hT6
      have g0 := hS6.int (j := 0) (by omega) (by omega) (by omega)
      rw [HI2.out.frame] at g0
      rw [show (0 : Int) + ((k + 1 : Nat) : Int) = (k : Int) + 1 by omega] at g0
      have g64 := hS6.score (i := 0) (by omega)
      have g65 := hS6.score (i := 1) (by omega)
      rw [Nat.add_zero] at g64
      rw [show 64 + 1 = 65 from rfl] at g65
      have q64 := hw6.cell 0
      have q65 := hw6.cell 1
      have d64 : decide (F1 64 < F0 64) = false := by have := HUp.out; simp; omega
      have d65 : decide (F1 65 < F0 65) = false := by have := HUp.out; simp; omega
      have HI3 := Lib.hid (HI2.out.wf (by omega) (by omega) (by omega))
      go_upto_region 11 with fail
      clear g0 g64 g65 q64 q65 d64 d65 hw6
      go_wp2_with fail
      go_loopw [8] (fun jv wr => ∃ j : Nat, j ≤ 2 ∧ jv = .int .i64 j ∧ SB wr b0 31 F1 ∧ Below w.heap.size w wr) (fun jv _ => 2 - (intOf jv).toNat)
      case atStart => exact ⟨0, by omega, rfl, hS6, hB6⟩
      case round =>
        clear hS6 hB6
        obtain ⟨j, hj, rfl, hS, hB⟩ := hrel
        by_cases hlj : j < 2
        · have j1 : (0 : Int) ≤ (j : Int) := by omega
          have j2 : (j : Int) < 2 := by omega
          obtain ⟨e0, e1, e2, e3, e4, e5, e6, -⟩ := hS.bodyAt hlj
          have hb := HI2.out.b j hlj
          have x0 := hb.x0; have x1 := hb.x1; have y0 := hb.y0; have v0 := hb.vx0; have v1 := hb.vx1
          have l0 := hb.l0; have l1 := hb.l1; have c0 := hb.c0; have c1 := hb.c1; have fc := hb.fc
          have hS2 := hS.alloc (.cells (bodL (bod F1 (2 + j * 7))).toArray 24)
          generalize bod F1 (2 + j * 7) = b at *
          have b1 : decide (b.x < 0) = false := by simp; omega
          have b2 : decide (13107200 < b.x) = false := by simp; omega
          have b3 : decide (b.y < 0) = false := by simp; omega
          have b4 : decide (b.vx < -196608) = false := by simp; omega
          have b5 : decide (196608 < b.vx) = false := by simp; omega
          have b6 : decide (b.life < 1) = false := by simp; omega
          have b7 : decide (100 < b.life) = false := by simp; omega
          have b8 : decide (b.cool < 0) = false := by simp; omega
          have b9 : decide (15 < b.cool) = false := by simp; omega
          unfold bodL at hS2
          have HS := Lib.hid hS2
          have HB := Lib.hid (hB.alloc hB.size (.cells (bodL b).toArray 24))
          unfold bodL at HB
          clear hb x0 x1 y0 v0 v1 l0 l1 c0 c1 hS hB hS2
          rcases fc with fc | fc
          all_goals
            rw [fc] at e6 HS HB
            go_wp2_with fail
            go_roundw
            case rel => exact ⟨j + 1, by omega, by go_num, HS.out, HB.out⟩
            case measure => simp [intOf]; omega
        · obtain rfl : j = 2 := by omega
          rw [show ((2 : Nat) : Int) = 2 from rfl]
          clear hlj hj
          go_wp2_with fail
          go_loopw [10] (fun jv wr => ∃ j : Nat, j ≤ 8 ∧ jv = .int .i64 j ∧ SB wr b0 31 F1 ∧ Below w.heap.size w wr) (fun jv _ => 8 - (intOf jv).toNat)
          case atStart => exact ⟨0, by omega, rfl, hS, hB⟩
          case round =>
            clear hS hB
            obtain ⟨j, hj, rfl, hS, hB⟩ := hrel
            by_cases hlj : j < 8
            · have j1 : (0 : Int) ≤ (j : Int) := by omega
              have j2 : (j : Int) < 8 := by omega
              obtain ⟨e0, e1, e2, e3, e4, e5, -⟩ := hS.shotAt hlj
              have hs := HI2.out.s j hlj
              have hS2 := hS.alloc (.cells (shoL (sho F1 (16 + j * 6))).toArray 27)
              have hB2 := hB.alloc hB.size (.cells (shoL (sho F1 (16 + j * 6))).toArray 27)
              generalize sho F1 (16 + j * 6) = s at *
              unfold shoL at hS2 hB2
              rcases hs with rfl | hs
              · simp only [zeroS, onB_no] at e0 e1 e2 e3 e4 e5 hS2 hB2
                have HS := Lib.hid hS2
                have HB := Lib.hid hB2
                clear hS hB hS2 hB2
                go_wp2_with fail
                go_roundw
                case rel => exact ⟨j + 1, by omega, by go_num, HS.out, HB.out⟩
                case measure => simp [intOf]; omega
              · have x0 := hs.x0; have x1 := hs.x1; have r0 := hs.f0; have r1 := hs.f1
                rw [onB_yes (by rw [hs.on]; decide)] at e0 hS2 hB2
                have b1 : decide (s.x < 0) = false := by simp; omega
                have b2 : decide (13107200 < s.x) = false := by simp; omega
                have b3 : decide (s.frames < 1) = false := by simp; omega
                have b4 : decide (60 < s.frames) = false := by simp; omega
                have HS := Lib.hid hS2
                have HB := Lib.hid hB2
                clear hS hB hS2 hB2 hs x0 x1 r0 r1
                go_wp2_with fail
                go_roundw
                case rel => exact ⟨j + 1, by omega, by go_num, HS.out, HB.out⟩
                case measure => simp [intOf]; omega
            · obtain rfl : j = 8 := by omega
              go_wp2_with fail
              have hL := HL.out
              go_roundw
              case rel => exact ⟨k + 1, by omega, by omega, by go_num, by rw [HF1.out]; exact hS, hB⟩
              case measure => simp [intOf]; omega
    · by_cases hlt1 : k < ls.length
      · have i0 : (k : Int) < (ls.length : Int) := by omega
        have i2 : decide ((k : Int) < 300) = false := by simp; omega
        clear hS
        go_wp2_with fail
        go_ret
        exact ⟨rfl, hB⟩
      · have i0 : decide ((k : Int) < (ls.length : Int)) = false := by simp; omega
        clear hS
        go_wp2_with fail
        go_ret
        exact ⟨rfl, hB⟩
end Go.Proofs.Ytlhoffhagfhbcaa.Gm
