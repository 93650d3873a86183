/-
  Texts joined: Rfly, Gholds, Rstep, Rplay. No condition.
-/
import Derived.Test.YtckkpgopddnkiaaGreatBRp14
namespace Go.Proofs.YtckkpgopddnkiaaGreat.Gm
open Go.RowKit Go.Sort Go.Proofs.YtckkpgopddnkiaaGreat.Num
set_option linter.all false

/-- A block of one shot. -/
def XB (w : World) (g : Nat) (s : Shot) : Prop := Blk w g 43 (shoL s).toArray
section
variable {w w' : World} {g : Nat} {s : Shot}
theorem XB.at_ (h : XB w g s) {j : Nat} {v : Value} (e : (shoL s)[j]? = some v) : w.cell? ⟨g, j, none⟩ = some v := by
  rw [Blk.cell h j, List.getElem?_toArray, e]
theorem XB.c0 (h : XB w g s) : w.cell? ⟨g, 0, none⟩ = some (.bool (onB s.on)) := h.at_ (j := 0) rfl
theorem XB.c1 (h : XB w g s) : w.cell? ⟨g, 1, none⟩ = some (.int .i64 s.x) := h.at_ (j := 1) rfl
theorem XB.c2 (h : XB w g s) : w.cell? ⟨g, 2, none⟩ = some (.int .i64 s.y) := h.at_ (j := 2) rfl
theorem XB.c3 (h : XB w g s) : w.cell? ⟨g, 3, none⟩ = some (.int .i64 s.vx) := h.at_ (j := 3) rfl
theorem XB.c4 (h : XB w g s) : w.cell? ⟨g, 4, none⟩ = some (.int .i64 s.owner) := h.at_ (j := 4) rfl
theorem XB.c5 (h : XB w g s) : w.cell? ⟨g, 5, none⟩ = some (.int .i64 s.frames) := h.at_ (j := 5) rfl
theorem XB.fz (h : XB w g s) (j : Nat) : w.frozen? ⟨g, j, none⟩ = false := Blk.frozen h j
theorem XB.x (h : XB w g s) (z : Int) : XB (w.setCell ⟨g, 1, none⟩ (.int .i64 z)) g { s with x := z } := Blk.set_ h 1 _
theorem XB.frames (h : XB w g s) (z : Int) : XB (w.setCell ⟨g, 5, none⟩ (.int .i64 z)) g { s with frames := z } := Blk.set_ h 5 _
end
/-- 'x := ..' of a shot: a block laid and stored whole. -/
theorem alloc_shot (w : World) (L : List Value) (s : Shot) (hL : L = shoL s) : ∃ W3, (storeCells ⟨w.heap.size, 0, none⟩ L).run Tryz.prog (w.alloc (.cells #[.bool false, .int .i64 0, .int .i64 0, .int .i64 0, .int .i64 0, .int .i64 0] 43)) = .ok () W3 ∧ XB W3 w.heap.size s ∧ Below w.heap.size w W3 ∧ w.heap.size + 1 = W3.heap.size := by
  have hX : Blk (w.alloc (.cells #[.bool false, .int .i64 0, .int .i64 0, .int .i64 0, .int .i64 0, .int .i64 0] 43)) w.heap.size 43 #[.bool false, .int .i64 0, .int .i64 0, .int .i64 0, .int .i64 0, .int .i64 0] := Blk.new _ _ _
  subst hL
  have := run_storeCells_from (P := Tryz.prog) w.heap.size 43 (shoL s) 0 _ _ hX (by simp [shoL]) (fun v hv => (Array.all_eq_true_iff_forall_mem.1 (shoL_one s)) v (by simpa using hv))
  refine ⟨_, this, ?_, ?_, by simp⟩
  · exact hX.setRow _
  · exact ((Below.refl _ w).alloc (Nat.le_refl _) _).trans ((touch_setRow _ w.heap.size _).below (by simp) (fun k hk => by omega))

theorem setB_life2 (f : F) (o : Nat) (v : Int) : setB f o { bod f o with life := v } = put f (o + 4) v := by
  funext k
  unfold setB bod put
  (repeat' split) <;> (first | rfl | omega | (subst_vars; rfl))
/-- What lies there while a shot flies: the state, the buttons, the result, the shot. -/
structure FlyX (w W : World) (gx : Nat) (f : F) (n0 n1 : Nat) (s : Shot) : Prop where
  st : SB W w.heap.size 47 f
  inp : Blk W (w.heap.size + 1) 32 #[.int .u16 n0, .int .u16 n1]
  res : Blk W (w.heap.size + 2) 47 Tryz.zeroCells47
  sh : XB W gx s
  lo : RowKit.Below w.heap.size w W
  gt : w.heap.size + 2 < gx
section
variable {w W W' : World} {gx : Nat} {f f' : F} {n0 n1 : Nat} {s s' : Shot}
theorem FlyX.below (h : FlyX w W gx f n0 n1 s) (hb : RowKit.Below W.heap.size W W') : FlyX w W' gx f n0 n1 s :=
  ⟨h.st.below hb h.st.lt, h.inp.below hb h.inp.lt, h.res.below hb h.res.lt, Blk.below h.sh hb (Blk.lt h.sh), h.lo.trans (hb.mono h.lo.size), h.gt⟩
theorem FlyX.setG (h : FlyX w W gx f n0 n1 s) (j : Nat) (u : Value) (hs : SB (W.setCell ⟨w.heap.size, j, none⟩ u) w.heap.size 47 f') : FlyX w (W.setCell ⟨w.heap.size, j, none⟩ u) gx f' n0 n1 s :=
  ⟨hs, Blk.far h.inp (by simp) u, Blk.far h.res (by simp) u, Blk.far h.sh (by have := h.gt; simp; omega) u, h.lo.setCell (by simp) u, h.gt⟩
theorem FlyX.cellsG (h : FlyX w W gx f n0 n1 s) (o : Nat) (L : List Value) (hs : SB (W.setCells w.heap.size o L) w.heap.size 47 f') : FlyX w (W.setCells w.heap.size o L) gx f' n0 n1 s := by
  have T : Touch (fun k => k = w.heap.size) W (W.setCells w.heap.size o L) := touch_setCells (S := fun k => k = w.heap.size) (Touch.refl _ _) _ (.inl rfl) _ _
  have := h.gt
  exact ⟨hs, h.inp.touch T (by omega), h.res.touch T (by omega), Blk.touch h.sh T (by omega), h.lo.trans (T.below h.lo.size (fun k hk => by omega)), h.gt⟩
theorem FlyX.setX (h : FlyX w W gx f n0 n1 s) (j : Nat) (u : Value) (hs : XB (W.setCell ⟨gx, j, none⟩ u) gx s') : FlyX w (W.setCell ⟨gx, j, none⟩ u) gx f n0 n1 s' :=
  have := h.gt
  ⟨SB.far h.st (by simp; omega) u, Blk.far h.inp (by simp; omega) u, Blk.far h.res (by simp; omega) u, hs, h.lo.setCell (by simp; omega) u, h.gt⟩
theorem FlyX.far (h : FlyX w W gx f n0 n1 s) {gb : Nat} (hg : gx < gb) (j : Nat) (u : Value) : FlyX w (W.setCell ⟨gb, j, none⟩ u) gx f n0 n1 s :=
  have := h.gt
  ⟨SB.far h.st (by simp; omega) u, Blk.far h.inp (by simp; omega) u, Blk.far h.res (by simp; omega) u, Blk.far h.sh (by simp; omega) u, h.lo.setCell (by simp; omega) u, h.gt⟩
theorem FlyX.touch (h : FlyX w W gx f n0 n1 s) {gb : Nat} (hg : gx < gb) (T : Touch (fun k => k = gb) W W') : FlyX w W' gx f n0 n1 s :=
  have := h.gt
  ⟨h.st.touch T (by omega), h.inp.touch T (by omega), h.res.touch T (by omega), Blk.touch h.sh T (by omega), h.lo.trans (T.below h.lo.size (fun k hk => by omega)), h.gt⟩
end

set_option maxRecDepth 100000 in
set_option maxHeartbeats 8000000 in
theorem rfly_any (w : World) (C : Array Value) (f : F) (fr sc : Int) (k : Nat) (n : Nat → Nat) (LC : Let C f) (hk : k < 8) (hn : ∀ i, i < 2 → n i < 65536) (hI : Inv fr sc f) (hsc : sc ≤ 4611686018427387904) (hon : f (16 + k * 6) ≠ 0) :
    Calls Tryz.prog 78 #[.agg C, .int .i64 k, inV n] w fun e w' => ∃ C', Let C' (flyF f k n) ∧ e = .returned (.agg C') ∧ Below w.heap.size w w' := by
  obtain ⟨s0, hs0⟩ : ∃ s, s = sho f (16 + k * 6) := ⟨_, rfl⟩
  have hin : ShotIn s0 := by rw [hs0]; exact (hI.s k hk).resolve_left fun e => hon (congrArg Shot.on e)
  have x0 := hin.x0
  have x1 := hin.x1
  have vx : -393216 ≤ s0.vx ∧ s0.vx ≤ 393216 := by rcases hin.vx with e | e <;> omega
  have r0 := hin.f0
  have r1 := hin.f1
  have y0 := hin.y0
  have y1 := hin.y1
  have HF := Lib.hid (show flyF f k n = if goneV (flown (sho f (16 + k * 6))) then setS f (16 + k * 6) zeroS
    else if hitsV (flown (sho f (16 + k * 6))) (bod f (2 + whoV (flown (sho f (16 + k * 6))) * 7)) then hurtF (setS f (16 + k * 6) zeroS) (whoV (flown (sho f (16 + k * 6)))) (n (whoV (flown (sho f (16 + k * 6)))))
    else setS f (16 + k * 6) (flown (sho f (16 + k * 6))) from rfl)
  rw [← hs0] at HF
  have hh := hold_bd (s0.x + s0.vx)
  have HFL := Lib.hid (show flown s0 = { s0 with x := hold (s0.x + s0.vx), frames := s0.frames - 1 } from rfl)
  have hwl := whoV_lt (flown s0)
  have how : (flown s0).owner = 1 - (whoV (flown s0) : Int) ∧ (whoV (flown s0) : Int) = if s0.owner % 2 = 0 then 1 else 0 := by
    show s0.owner = 1 - ((if s0.owner % 2 = 0 then 1 else 0 : Nat) : Int) ∧ ((if s0.owner % 2 = 0 then 1 else 0 : Nat) : Int) = _
    rcases hin.ow with e | e <;> rw [e] <;> simp
  have hz := hI.setS hk (.inl rfl : ShotOk zeroS)
  obtain ⟨who, hwho⟩ : ∃ who, whoV (flown s0) = who := ⟨_, rfl⟩
  rw [hwho] at HF hwl how
  have hbk := hI.b who hwl
  have hzs0 := hz.seed0
  have hzs1 := hz.seed1
  have hzq : 0 ≤ (setS f (16 + k * 6) zeroS) (64 + (1 - who)) ∧ (setS f (16 + k * 6) zeroS) (64 + (1 - who)) ≤ sc := by
    have : 1 - who = 0 ∨ 1 - who = 1 := by omega
    rcases this with e | e <;> rw [e]
    · exact ⟨hz.p0, hz.p1⟩
    · exact ⟨hz.q0, hz.q1⟩
  have HQ := Lib.hid (show (0 ≤ (setS f (16 + k * 6) zeroS) (64 + (1 - who)) ∧ (setS f (16 + k * 6) zeroS) (64 + (1 - who)) ≤ sc) ∧ sc ≤ 4611686018427387904 ∧ 0 ≤ (setS f (16 + k * 6) zeroS) 1 ∧ (setS f (16 + k * 6) zeroS) 1 < 4294967296 from ⟨hzq, hsc, hzs0, hzs1⟩)
  have HBK := Lib.hid hbk
  have HK := Lib.hid hk
  have HW := Lib.hid hwl
  have HO := Lib.hid how
  have HN := Lib.hid (hn who hwl)
  have k1 : (0 : Int) ≤ (k : Int) := by omega
  have k2 : (k : Int) < 8 := by omega
  -- the three blocks
  obtain ⟨W1, hW1⟩ : ∃ W1, W1 = ((w.alloc (.cells C 47)).alloc (.cells #[.int .u16 (n 0), .int .u16 (n 1)] 32)).alloc (.cells Tryz.zeroCells47 47) := ⟨_, rfl⟩
  have hS : SB W1 w.heap.size 47 f := by
    rw [hW1]
    exact ((LC.sb (Blk.new w 47 C)).alloc _).alloc _
  have hP : Blk W1 (w.heap.size + 1) 32 #[.int .u16 (n 0), .int .u16 (n 1)] := by
    rw [hW1]
    have := (Blk.new (w.alloc (.cells C 47)) 32 #[.int .u16 (n 0), .int .u16 (n 1)]).alloc (.cells Tryz.zeroCells47 47)
    simpa using this
  have hR : Blk W1 (w.heap.size + 2) 47 Tryz.zeroCells47 := by
    rw [hW1]
    have := Blk.new ((w.alloc (.cells C 47)).alloc (.cells #[.int .u16 (n 0), .int .u16 (n 1)] 32)) 47 Tryz.zeroCells47
    simpa using this
  have hB : Below w.heap.size w W1 := by rw [hW1]; exact (((Below.refl _ w).alloc (Nat.le_refl _) _).alloc (by simp) _).alloc (by simp; omega) _
  have hz3 : w.heap.size + 3 = W1.heap.size := by rw [hW1]; simp
  have hrS := hS.shoR hk
  rw [← hs0] at hrS
  obtain ⟨Ls, hLs⟩ : ∃ Ls, Ls = shoL s0 := ⟨_, rfl⟩
  rw [← hLs] at hrS
  have hLn : Ls.length = 6 := by rw [hLs]; rfl
  have hiS : (Tryz.prog.info? 43).map (·.size) = some Ls.length := by rw [hLn]; exact infoS
  have HA := Lib.hid (fun W => alloc_shot W Ls s0 hLs)
  have pA := Lib.hid (fun W => Num.add_any W s0.x s0.vx (by omega) (by omega) (by omega) (by omega))
  have cbx : ∀ W, Blk W (w.heap.size + 1) 32 #[.int .u16 (n 0), .int .u16 (n 1)] → W.cell? ⟨w.heap.size + 1, who, none⟩ = some (.int .u16 (n who)) := by
    intro W hW
    have := hW.cell who
    rw [this]
    have e : who = 0 ∨ who = 1 := by omega
    rcases e with rfl | rfl <;> rfl
  have CBX := Lib.hid cbx
  obtain ⟨n0, hn0⟩ : ∃ n0, n 0 = n0 := ⟨_, rfl⟩
  obtain ⟨n1, hn1⟩ : ∃ n1, n 1 = n1 := ⟨_, rfl⟩
  unfold inV
  rw [hn0, hn1] at hW1 CBX hP ⊢
  have hE1 := fun W gx (hb : RowKit.Below W1.heap.size W1 W) (hx : XB W gx s0) (hg : w.heap.size + 3 ≤ gx) => (⟨hS.below hb hS.lt, hP.below hb hP.lt, hR.below hb hR.lt, hx, hB.trans (hb.mono hB.size), by omega⟩ : FlyX w W gx f n0 n1 s0)
  have HE1 := Lib.hid hE1
  have HZ := Lib.hid hz3
  clear hS hR hP hB hI hon hk hn hin hs0 hz hbk hzs0 hzs1 hzq hwl cbx hsc how hLs hE1 hz3 hn0 hn1 LC
  have HWH := Lib.hid hwho
  clear hwho
  generalize hold (s0.x + s0.vx) = xv at *
  go_enter Tryz.func78, Tryz.ntmps78
  go_upto_region 1 with fail
  rw [← hW1]
  clear hW1
  obtain ⟨W2, hrun, X2, b2, hz2⟩ := HA.out W1
  clear HA
  go_upto_region 2 with (refine wpList_load_mid (by rfl) 43 _ (by rfl) w.heap.size (16 + k * 6) (by rfl) Ls _ hrS Tryz.underlying43 (by rfl) hiS ?_)
  clear hrun hrS hiS hLn
  have E2 := HE1.out W2 W1.heap.size b2 X2 (by have := HZ.out; omega)
  generalize W1.heap.size = gx at *
  clear HE1 HZ X2 b2 hz2
  have hgx := Lib.hid E2.gt
  have c1 := E2.sh.c1
  have c3 := E2.sh.c3
  have HE2 := Lib.hid E2
  clear E2
  go_wp2_with fail
  refine (pA.out _).mono ?_
  rintro e W3 ⟨rfl, b3⟩
  have E3 := HE2.out.below b3
  clear HE2 b3 pA c1 c3
  have c1 := E3.sh.c1
  have f1 := E3.sh.fz 1
  have E4 := E3.setX 1 (.int .i64 xv) (E3.sh.x xv)
  have HE4 := Lib.hid E4
  clear E3 E4
  go_upto_region 3 with fail
  clear c1 f1
  generalize W3.setCell ⟨gx, 1, none⟩ (.int .i64 xv) = W4 at *
  have E4 := HE4.out
  have c5 := E4.sh.c5
  have f5 := E4.sh.fz 5
  dsimp only at c5
  have E5 := E4.setX 5 (.int .i64 (s0.frames - 1)) (E4.sh.frames (s0.frames - 1))
  have HE5 := Lib.hid E5
  clear E4 E5 HE4
  go_upto_region 4 with fail
  clear c5 f5
  generalize W4.setCell ⟨gx, 5, none⟩ (.int .i64 (s0.frames - 1)) = W5 at *
  have E5 : FlyX w W5 gx f n0 n1 (flown s0) := by rw [HFL.out]; exact HE5.out
  have hsx : (flown s0).x = xv := by rw [HFL.out]
  have hsf : (flown s0).frames = s0.frames - 1 := by rw [HFL.out]
  have hso : (flown s0).owner = s0.owner := by rw [HFL.out]
  have hsy : (flown s0).y = s0.y := by rw [HFL.out]
  rw [← hso] at HO
  have hx2 : -9223372036854775808 ≤ (flown s0).x ∧ (flown s0).x ≤ 9223372036854775807 := by omega
  have hy2 : -9223372036854775808 ≤ (flown s0).y ∧ (flown s0).y ≤ 9223372036854775807 := by omega
  clear hsx hsf hso hsy x0 x1 vx r0 r1 y0 y1 hh HFL HE5
  generalize flown s0 = s at *
  have hbS := E5.sh
  obtain ⟨Vs, hVs⟩ : ∃ Vs, Vs = (shoL s).toArray := ⟨_, rfl⟩
  unfold XB at hbS
  rw [← hVs] at hbS
  have hiV : (Tryz.prog.info? 43).map (·.size) = some Vs.size := by rw [hVs]; exact infoS
  have hoV : Vs.all (·.oneCell') = true := by rw [hVs]; exact shoL_one s
  have htV : W5.there w.heap.size (16 + k * 6) Vs.size := by rw [hVs]; exact E5.st.there (by have := HK.out; simp [shoL]; omega)
  obtain ⟨W6, hW6⟩ : ∃ W6, W5.setCells w.heap.size (16 + k * 6) Vs.toList = W6 := ⟨_, rfl⟩
  have E6 : FlyX w W6 gx (setS f (16 + k * 6) s) n0 n1 s := by
    rw [← hW6, hVs]
    exact E5.cellsG _ _ (E5.st.setShot HK.out s)
  have HW6 := Lib.hid hW6
  have HiV := Lib.hid hiV
  have HoV := Lib.hid hoV
  have HtV := Lib.hid htV
  have HbS := Lib.hid hbS
  have HE6 := Lib.hid E6
  clear hW6 hiV hoV htV hVs E6 E5 hbS
  go_upto_region 5 with (first | (refine wpList_load_blk (by rfl) 43 _ (by rfl) gx (by rfl) _ Vs _ HbS.out Tryz.underlying43 (by rfl) HiV.out ?_) | (refine wpList_store_midw (by rfl) 43 _ _ (by rfl) w.heap.size (16 + k * 6) Vs (by rfl) (by rfl) HtV.out HiV.out HoV.out W6 HW6.out ?_) | fail)
  clear HW6 HiV HoV HtV HbS hgx
  have E6 := HE6.out
  have c1 := E6.sh.c1
  have c5 := E6.sh.c5
  have E7 := E6.cellsG (16 + k * 6) [.bool false, .int .i64 0, .int .i64 0, .int .i64 0, .int .i64 0, .int .i64 0] (f' := setS f (16 + k * 6) zeroS) (by
    have := E6.st.setShot HK.out zeroS
    rwa [setS_setS] at this)
  have htZ : W6.there w.heap.size (16 + k * 6) 6 := E6.st.there (by have := HK.out; omega)
  obtain ⟨W7, hW7⟩ : ∃ W7, W6.setCells w.heap.size (16 + k * 6) [.bool false, .int .i64 0, .int .i64 0, .int .i64 0, .int .i64 0, .int .i64 0] = W7 := ⟨_, rfl⟩
  rw [hW7] at E7
  have HW7 := Lib.hid hW7
  have HE7 := Lib.hid E7
  have HTZ := Lib.hid htZ
  clear hW7 E7 htZ E6
  by_cases g1 : s.frames ≤ 0
  · have c' : decide (s.frames ≤ 0) = true := by simpa using g1
    have HF2 := HF.out
    rw [if_pos (show goneV s = true by simp [goneV]; omega)] at HF2
    have HF3 := Lib.hid HF2
    clear HF2 HF g1
    go_upto_region 7 with (first | (refine wpList_store_midw (by rfl) 43 _ _ (by rfl) w.heap.size (16 + k * 6) #[.bool false, .int .i64 0, .int .i64 0, .int .i64 0, .int .i64 0, .int .i64 0] (by rfl) (by rfl) HTZ.out infoS (by simp [Value.oneCell']) W7 HW7.out ?_) | fail)
    clear c1 c5 c'
    have S9 := HE7.out.st
    rw [← HF3.out] at S9
    obtain ⟨C9, LC9⟩ := let_of (flyF f k n)
    have hS9 := LC9.blk S9
    have R9 := HE7.out.res
    have B9 := HE7.out.lo
    have hzs : Tryz.zeroCells47.size = C9.size := by rw [LC9.size, ← stA_zero]; exact stA_size _
    have hif := LC9.info
    have hone := LC9.one
    have HC9 := Lib.hid LC9
    clear LC9
    go_wp2_with (first | (refine wpList_load_blk (by rfl) 47 _ (by rfl) w.heap.size (by rfl) _ C9 _ hS9 Tryz.underlying47 (by rfl) hif ?_) | (refine wpList_store_blk (by rfl) 47 _ _ (by rfl) (w.heap.size + 1 + 1) C9 (by rfl) (by rfl) _ _ R9 hif hzs hone ?_; intro W6 hd6 ht6) | fail)
    refine bodyPost_ret (v := .agg C9) (results_blk Tryz.results78 _ _ (w.heap.size + 1 + 1) _ _ _ (by rfl) hd6 Tryz.underlying47 (by rfl) hif) rfl ⟨C9, HC9.out, rfl, ?_⟩
    exact B9.trans (ht6.below B9.size (fun k hk => by omega))
  have d1 : decide (s.frames ≤ 0) = false := by simpa using g1
  by_cases g2 : s.x < 0
  · have c' : decide (s.x < 0) = true := by simpa using g2
    have HF2 := HF.out
    rw [if_pos (show goneV s = true by simp [goneV]; omega)] at HF2
    have HF3 := Lib.hid HF2
    clear HF2 HF g2
    go_upto_region 7 with (first | (refine wpList_store_midw (by rfl) 43 _ _ (by rfl) w.heap.size (16 + k * 6) #[.bool false, .int .i64 0, .int .i64 0, .int .i64 0, .int .i64 0, .int .i64 0] (by rfl) (by rfl) HTZ.out infoS (by simp [Value.oneCell']) W7 HW7.out ?_) | fail)
    clear c1 c5 c'
    have S9 := HE7.out.st
    rw [← HF3.out] at S9
    obtain ⟨C9, LC9⟩ := let_of (flyF f k n)
    have hS9 := LC9.blk S9
    have R9 := HE7.out.res
    have B9 := HE7.out.lo
    have hzs : Tryz.zeroCells47.size = C9.size := by rw [LC9.size, ← stA_zero]; exact stA_size _
    have hif := LC9.info
    have hone := LC9.one
    have HC9 := Lib.hid LC9
    clear LC9
    go_wp2_with (first | (refine wpList_load_blk (by rfl) 47 _ (by rfl) w.heap.size (by rfl) _ C9 _ hS9 Tryz.underlying47 (by rfl) hif ?_) | (refine wpList_store_blk (by rfl) 47 _ _ (by rfl) (w.heap.size + 1 + 1) C9 (by rfl) (by rfl) _ _ R9 hif hzs hone ?_; intro W6 hd6 ht6) | fail)
    refine bodyPost_ret (v := .agg C9) (results_blk Tryz.results78 _ _ (w.heap.size + 1 + 1) _ _ _ (by rfl) hd6 Tryz.underlying47 (by rfl) hif) rfl ⟨C9, HC9.out, rfl, ?_⟩
    exact B9.trans (ht6.below B9.size (fun k hk => by omega))
  have d2 : decide (s.x < 0) = false := by simpa using g2
  by_cases g3 : 13107200 < s.x
  · have c' : decide (13107200 < s.x) = true := by simpa using g3
    have HF2 := HF.out
    rw [if_pos (show goneV s = true by simp [goneV]; omega)] at HF2
    have HF3 := Lib.hid HF2
    clear HF2 HF g3
    go_upto_region 7 with (first | (refine wpList_store_midw (by rfl) 43 _ _ (by rfl) w.heap.size (16 + k * 6) #[.bool false, .int .i64 0, .int .i64 0, .int .i64 0, .int .i64 0, .int .i64 0] (by rfl) (by rfl) HTZ.out infoS (by simp [Value.oneCell']) W7 HW7.out ?_) | fail)
    clear c1 c5 c'
    have S9 := HE7.out.st
    rw [← HF3.out] at S9
    obtain ⟨C9, LC9⟩ := let_of (flyF f k n)
    have hS9 := LC9.blk S9
    have R9 := HE7.out.res
    have B9 := HE7.out.lo
    have hzs : Tryz.zeroCells47.size = C9.size := by rw [LC9.size, ← stA_zero]; exact stA_size _
    have hif := LC9.info
    have hone := LC9.one
    have HC9 := Lib.hid LC9
    clear LC9
    go_wp2_with (first | (refine wpList_load_blk (by rfl) 47 _ (by rfl) w.heap.size (by rfl) _ C9 _ hS9 Tryz.underlying47 (by rfl) hif ?_) | (refine wpList_store_blk (by rfl) 47 _ _ (by rfl) (w.heap.size + 1 + 1) C9 (by rfl) (by rfl) _ _ R9 hif hzs hone ?_; intro W6 hd6 ht6) | fail)
    refine bodyPost_ret (v := .agg C9) (results_blk Tryz.results78 _ _ (w.heap.size + 1 + 1) _ _ _ (by rfl) hd6 Tryz.underlying47 (by rfl) hif) rfl ⟨C9, HC9.out, rfl, ?_⟩
    exact B9.trans (ht6.below B9.size (fun k hk => by omega))
  have d3 : decide (13107200 < s.x) = false := by simpa using g3
  have HF2 := HF.out
  rw [if_neg (show ¬ goneV s = true by simp [goneV]; omega)] at HF2
  have HF3 := Lib.hid HF2
  clear HF2 HF
  go_upto_region 9 with fail
  clear c1 c5 g1 g2 g3 d1 d2 d3
  have hcell := HE6.out.sh.c4
  rw [HO.out.1] at hcell
  have hwk : (0 : Int) ≤ 1 - (who : Int) ∧ 1 - (who : Int) < 2 := by have := HW.out; omega
  go_upto_if 49 with fail
  go_cut [8] (fun v8 wx => v8 = .int .i64 who ∧ wx = W6)
  case first =>
    have e : who = 0 ∨ who = 1 := by have := HW.out; omega
    rcases e with rfl | rfl
    · go_wp2_with fail
      go_meet
      exact ⟨by first | rfl | trivial, by first | rfl | trivial⟩
    · go_wp2_with fail
      go_meet
      exact ⟨by first | rfl | trivial, by first | rfl | trivial⟩
  case rest =>
    obtain ⟨rfl, rfl⟩ := hcut
    clear hcell hwk HTZ HE7 HW7
    have w1 : (0 : Int) ≤ (who : Int) := by omega
    have w2 : (who : Int) < 2 := by have := HW.out; omega
    have hbe : bod (setS f (16 + k * 6) s) (2 + who * 7) = bod f (2 + who * 7) := bod_congr (fun j h1 h2 => setS_out _ _ _ (by have := HW.out; omega))
    have hrB := HE6.out.st.bodR HW.out
    rw [hbe] at hrB
    have hbz : bod (setS f (16 + k * 6) zeroS) (2 + who * 7) = bod f (2 + who * 7) := bod_congr (fun j h1 h2 => setS_out _ _ _ (by have := HW.out; omega))
    have HBZ := Lib.hid hbz
    obtain ⟨b, hb⟩ : ∃ b, bod f (2 + who * 7) = b := ⟨_, rfl⟩
    rw [hb] at hrB HBK HF3 HBZ
    have hy0 := HBK.out.y0
    have hy1 := HBK.out.y1
    have hx0 := HBK.out.x0
    have hx1 := HBK.out.x1
    have hhy := hold_bd (b.y + 65536)
    have HHV := Lib.hid (show hitsV s b = (nearV s.x b.x 262144 && nearV s.y (hold (b.y + 65536)) 393216) from rfl)
    obtain ⟨Lb, hLb⟩ : ∃ Lb, Lb = bodL b := ⟨_, rfl⟩
    rw [← hLb] at hrB
    have hLs : Lb.length = 7 := by rw [hLb]; rfl
    have hiB : (Tryz.prog.info? 40).map (·.size) = some Lb.length := by rw [hLs]; exact infoB
    obtain ⟨W8, hrun, M8, b8, hz8⟩ := alloc_body wc Lb b hLb
    clear hbe hbz hb hLb
    go_upto_region 12 with (refine wpList_load_mid (by rfl) 40 _ (by rfl) w.heap.size (2 + who * 7) (by rfl) Lb _ hrB Tryz.underlying40 (by rfl) hiB ?_)
    clear hrun hrB hiB hLs
    have E8 := HE6.out.below b8
    have hgb : gx < wc.heap.size := Blk.lt HE6.out.sh
    clear HE6 b8 hz8
    generalize wc.heap.size = gb at *
    have c1 := E8.sh.c1
    have c2 := E8.sh.c2
    have m0 := M8.c0
    have m1 := M8.c1
    have cN1 := regrown W8 (v := .bool (nearV s.x b.x 262144)) (fun W _ => rnear_any W s.x b.x 262144 hx2.1 hx2.2 (by omega) (by omega))
    have cA := regrown W8 (v := .int .i64 (hold (b.y + 65536))) (fun W _ => Num.add_any W b.y 65536 (by omega) (by omega) (by omega) (by omega))
    generalize hold (b.y + 65536) = yv at *
    have cN2 := regrown W8 (v := .bool (nearV s.y yv 393216)) (fun W _ => rnear_any W s.y yv 393216 hy2.1 hy2.2 hhy.1 hhy.2)
    have d1 := cell_regrown c1
    have d2 := cell_regrown c2
    have d3 := cell_regrown m0
    have d4 := cell_regrown m1
    clear c1 c2 m0 m1 hx0 hx1 hy0 hy1 hhy
    generalize nearV s.x b.x 262144 = N1 at *
    generalize nearV s.y yv 393216 = N2 at *
    have HE8 := Lib.hid E8
    have HM8 := Lib.hid M8
    have HGB := Lib.hid hgb
    clear E8 M8 hgb
    go_cut [68] (fun v wx => v = .bool (!(N1 && N2)) ∧ RowKit.Below W8.heap.size W8 wx)
    case first =>
      cases N1
      · refine wp_region_quiet_below (by kernel_rfl) (by kernel_rfl) ?_
        repeat (quiet_step (fail))
        quiet_step (exact cN1 _ _)
        repeat (quiet_step (fail))
        refine wpQuiet_nil ?_
        intro W9 hw'
        obtain ⟨⟨dq, osq⟩, hw''⟩ := hw'
        have hb9 : Below W8.heap.size W8 W9 := by rw [hw'']; exact below_regrown _ _ _
        clear hw''
        go_wp2_with fail
        go_meet
        exact ⟨by first | rfl | trivial, hb9⟩
      · refine wp_region_quiet_below (by kernel_rfl) (by kernel_rfl) ?_
        repeat (quiet_step (fail))
        quiet_step (exact cN1 _ _)
        repeat (quiet_step (fail))
        quiet_step (exact cA _ _)
        repeat (quiet_step (fail))
        quiet_step (exact cN2 _ _)
        repeat (quiet_step (fail))
        refine wpQuiet_nil ?_
        intro W9 hw'
        obtain ⟨⟨dq, osq⟩, hw''⟩ := hw'
        have hb9 : Below W8.heap.size W8 W9 := by rw [hw'']; exact below_regrown _ _ _
        clear hw''
        go_wp2_with fail
        go_meet
        exact ⟨by first | rfl | trivial | simp, hb9⟩
    case rest =>
      obtain ⟨rfl, b9⟩ := hcut
      have E9 := HE8.out.below b9
      have M9 := HM8.out.below b9 (Blk.lt HM8.out)
      clear HE8 HM8 b9 cN1 cN2 cA d1 d2 d3 d4
      have hHV := HHV.out
      generalize (N1 && N2) = hv at *
      cases hv
      · have HF4 := HF3.out
        rw [hHV, if_neg (by simp)] at HF4
        have S9 := E9.st
        rw [← HF4] at S9
        have HR9 := Lib.hid E9.res
        have HB9 := Lib.hid E9.lo
        clear HF4 HF3 hHV HHV E9 M9
        go_upto_region 13 with fail
        obtain ⟨C9, LC9⟩ := let_of (flyF f k n)
        have hS9 := LC9.blk S9
        have R9 := HR9.out
        have B9 := HB9.out
        have hzs : Tryz.zeroCells47.size = C9.size := by rw [LC9.size, ← stA_zero]; exact stA_size _
        have hif := LC9.info
        have hone := LC9.one
        have HC9 := Lib.hid LC9
        clear LC9
        go_wp2_with (first | (refine wpList_load_blk (by rfl) 47 _ (by rfl) w.heap.size (by rfl) _ C9 _ hS9 Tryz.underlying47 (by rfl) hif ?_) | (refine wpList_store_blk (by rfl) 47 _ _ (by rfl) (w.heap.size + 1 + 1) C9 (by rfl) (by rfl) _ _ R9 hif hzs hone ?_; intro W6 hd6 ht6) | fail)
        refine bodyPost_ret (v := .agg C9) (results_blk Tryz.results78 _ _ (w.heap.size + 1 + 1) _ _ _ (by rfl) hd6 Tryz.underlying47 (by rfl) hif) rfl ⟨C9, HC9.out, rfl, ?_⟩
        exact B9.trans (ht6.below B9.size (fun k hk => by omega))
      · have HF4 := HF3.out
        rw [hHV, if_pos rfl] at HF4
        have HF5 := Lib.hid HF4
        have htZ : wc.there w.heap.size (16 + k * 6) 6 := E9.st.there (by have := HK.out; omega)
        have E10 := E9.cellsG (16 + k * 6) [.bool false, .int .i64 0, .int .i64 0, .int .i64 0, .int .i64 0, .int .i64 0] (f' := setS f (16 + k * 6) zeroS) (by
          have := E9.st.setShot HK.out zeroS
          rwa [setS_setS] at this)
        have hgxb := HGB.out
        have hgt := E9.gt
        have M10 : MB (wc.setCells w.heap.size (16 + k * 6) [.bool false, .int .i64 0, .int .i64 0, .int .i64 0, .int .i64 0, .int .i64 0]) gb b :=
          Blk.touch M9 (touch_setCells (S := fun k => k = w.heap.size) (Touch.refl _ _) _ (.inl rfl) _ _) (by omega)
        obtain ⟨W10, hW10⟩ : ∃ W10, wc.setCells w.heap.size (16 + k * 6) [.bool false, .int .i64 0, .int .i64 0, .int .i64 0, .int .i64 0, .int .i64 0] = W10 := ⟨_, rfl⟩
        rw [hW10] at E10 M10
        have HW10 := Lib.hid hW10
        have HTZ := Lib.hid htZ
        have HGT := Lib.hid hgt
        clear HF4 HF3 hHV HHV hW10 htZ hgxb hgt
        go_upto_region 15 with (first | (refine wpList_store_midw (by rfl) 43 _ _ (by rfl) w.heap.size (16 + k * 6) #[.bool false, .int .i64 0, .int .i64 0, .int .i64 0, .int .i64 0, .int .i64 0] (by rfl) (by rfl) HTZ.out infoS (by simp [Value.oneCell']) W10 HW10.out ?_) | fail)
        clear E9 M9 HTZ HW10
        generalize setS f (16 + k * 6) zeroS = z at *
        have hin := CBX.out W10 E10.inp
        have pH := Lib.hid (fun W => has_any W (n who) 32 HN.out (by omega) (by omega))
        have hsd := E10.st.seed
        have s0 := HQ.out.2.2.1
        have s1 := HQ.out.2.2.2
        have c4 := M10.c4
        have f4 := M10.fz 4
        have l0 := HBK.out.l0
        have l1 := HBK.out.l1
        obtain ⟨p, hp⟩ : ∃ p, p = painV (z 1) (n who) := ⟨_, rfl⟩
        have hpn : 1 ≤ p ∧ p ≤ 10 := by rw [hp]; exact painV_in s0 _
        have E11 := E10.far HGB.out 4 (.int .i64 (b.life - p))
        have M11 := M10.life (b.life - p)
        have HE11 := Lib.hid E11
        have HM11 := Lib.hid M11
        have HP := Lib.hid hp
        clear E11 M11 E10 M10 hp
        go_wp2_with fail
        refine (pH.out _).mono ?_
        rintro e w11 ⟨rfl, rfl⟩
        clear hin
        go_upto_if 77 with fail
        go_cut [77] (fun v77 wx => FlyX w wx gx z n0 n1 s ∧ MB wx gb { b with life := b.life - p })
        case first =>
          by_cases hbt : n who / 32 % 2 = 1
          · obtain ⟨m, hm⟩ : ∃ m : Nat, z 1 / 65536 = (m : Int) := ⟨(z 1 / 65536).toNat, by omega⟩
            have hm1 : m < 65536 := by omega
            have hpp : b.life - 4 - (m : Int) % 3 = b.life - p := by rw [HP.out]; unfold painV; rw [if_pos hbt, hm]; omega
            have e32 : decide (n who / 32 % 2 = 1) = true := by rw [hbt]; rfl
            rw [e32]
            clear e32 hbt HP pH hpn
            have HPP := Lib.hid hpp
            clear hpp
            go_wp2_with fail
            go_meet
            exact ⟨by rw [HPP.out]; exact HE11.out, by rw [HPP.out]; exact HM11.out⟩
          · have hpp : b.life - 10 = b.life - p := by rw [HP.out]; unfold painV; rw [if_neg hbt]
            have e32 : decide (n who / 32 % 2 = 1) = false := by simpa using hbt
            rw [e32]
            clear e32 hbt HP pH hpn
            have HPP := Lib.hid hpp
            clear hpp
            go_wp2_with fail
            go_meet
            exact ⟨by rw [HPP.out]; exact HE11.out, by rw [HPP.out]; exact HM11.out⟩
        case rest =>
          clear HE11 HM11 hsd s0 s1 c4 f4
          obtain ⟨E11, M11⟩ := hcut
          clear pH
          have c4 := M11.c4
          dsimp only at c4
          by_cases hl : 0 < b.life - p
          · have HFA := Lib.hid (show flyF f k n = setB z (2 + who * 7) { b with life := b.life - p } by
              rw [HF5.out]
              unfold hurtF
              rw [← HP.out, show z (2 + who * 7 + 4) = b.life from congrArg Body.life HBZ.out, if_pos hl, ← setB_life2 z (2 + who * 7) (b.life - p), HBZ.out])
            clear HF5
            go_upto_region 21 with fail
            clear c4
            obtain ⟨Vb, hVb⟩ : ∃ Vb, Vb = (bodL { b with life := b.life - p }).toArray := ⟨_, rfl⟩
            have hMV : Blk wc gb 40 Vb := by rw [hVb]; exact M11
            have hiV : (Tryz.prog.info? 40).map (·.size) = some Vb.size := by rw [hVb]; exact infoB
            have hoV : Vb.all (·.oneCell') = true := by rw [hVb]; exact bodL_one _
            have htV : wc.there w.heap.size (2 + who * 7) Vb.size := by rw [hVb]; exact E11.st.there (by have := HW.out; simp [bodL]; omega)
            obtain ⟨W12, hW12⟩ : ∃ W12, wc.setCells w.heap.size (2 + who * 7) Vb.toList = W12 := ⟨_, rfl⟩
            have E12 : FlyX w W12 gx (setB z (2 + who * 7) ({ b with life := b.life - p })) n0 n1 s := by
              rw [← hW12, hVb]
              exact E11.cellsG _ _ (E11.st.setBody HW.out _)
            have HW12 := Lib.hid hW12
            have HiV := Lib.hid hiV
            have HoV := Lib.hid hoV
            have HtV := Lib.hid htV
            have HMV := Lib.hid hMV
            have HE12 := Lib.hid E12
            clear hW12 hiV hoV htV hVb hMV E12
            go_upto_region 22 with (first | (refine wpList_load_blk (by rfl) 40 _ (by rfl) gb (by rfl) _ Vb _ HMV.out Tryz.underlying40 (by rfl) HiV.out ?_) | (refine wpList_store_midw (by rfl) 40 _ _ (by rfl) w.heap.size (2 + who * 7) Vb (by rfl) (by rfl) HtV.out HiV.out HoV.out W12 HW12.out ?_) | fail)
            have S9 := HE12.out.st
            rw [← HFA.out] at S9
            have HR9 := Lib.hid HE12.out.res
            have HB9 := Lib.hid HE12.out.lo
            clear HMV HtV HiV HoV HW12 HE12
            obtain ⟨C9, LC9⟩ := let_of (flyF f k n)
            have hS9 := LC9.blk S9
            have R9 := HR9.out
            have B9 := HB9.out
            have hzs : Tryz.zeroCells47.size = C9.size := by rw [LC9.size, ← stA_zero]; exact stA_size _
            have hif := LC9.info
            have hone := LC9.one
            have HC9 := Lib.hid LC9
            clear LC9
            go_wp2_with (first | (refine wpList_load_blk (by rfl) 47 _ (by rfl) w.heap.size (by rfl) _ C9 _ hS9 Tryz.underlying47 (by rfl) hif ?_) | (refine wpList_store_blk (by rfl) 47 _ _ (by rfl) (w.heap.size + 1 + 1) C9 (by rfl) (by rfl) _ _ R9 hif hzs hone ?_; intro W6 hd6 ht6) | fail)
            refine bodyPost_ret (v := .agg C9) (results_blk Tryz.results78 _ _ (w.heap.size + 1 + 1) _ _ _ (by rfl) hd6 Tryz.underlying47 (by rfl) hif) rfl ⟨C9, HC9.out, rfl, ?_⟩
            exact B9.trans (ht6.below B9.size (fun k hk => by omega))
          · have HFA := Lib.hid (show flyF f k n = setB (put z (64 + (1 - who)) (z (64 + (1 - who)) + 1)) (2 + who * 7) (bornB who) by
              rw [HF5.out]
              unfold hurtF
              rw [← HP.out, show z (2 + who * 7 + 4) = b.life from congrArg Body.life HBZ.out, if_neg hl])
            clear HF5
            obtain ⟨v, hv⟩ : ∃ v, 1 - who = v := ⟨_, rfl⟩
            have hv1 : (1 : Int) - (who : Int) = (v : Int) := by have := HW.out; omega
            have hv2 : v < 2 := by omega
            rw [hv] at HQ HFA
            clear hv
            go_upto_region 19 with fail
            clear c4
            have s1 := E11.st.score hv2
            have sf := E11.st.fr (64 + v)
            have q0 := HQ.out.1.1
            have q1 := HQ.out.1.2
            have q2 := HQ.out.2.1
            have hv3 : (0 : Int) ≤ (v : Int) := by omega
            have hv4 : (v : Int) < 2 := by omega
            have E12 := E11.setG (64 + v) (.int .i64 (z (64 + v) + 1)) (E11.st.setInt (j := 64 + v) (by omega) (by omega) (by omega) (z (64 + v) + 1))
            have hne : w.heap.size ≠ gb := by have := HGB.out; have := HGT.out; omega
            have M12 : MB (wc.setCell ⟨w.heap.size, 64 + v, none⟩ (.int .i64 (z (64 + v) + 1))) gb _ := Blk.far M11 (by simp; omega) (.int .i64 (z (64 + v) + 1))
            have HE12 := Lib.hid E12
            have HM12 := Lib.hid M12
            clear E11 M11 E12 M12
            go_upto_region 20 with fail
            clear s1 sf q0 q1 q2 hv3 hv4
            generalize wc.setCell ⟨w.heap.size, 64 + v, none⟩ (.int .i64 (z (64 + v) + 1)) = W12 at *
            obtain ⟨v0, hv0, hv00⟩ : ∃ v0, v0 = (bodL (bornB who)).toArray ∧ bodV (bornB who) = .agg v0 := ⟨_, rfl, rfl⟩
            have pB := Lib.hid (fun W => rborn_any W who HW.out)
            rw [hv00] at pB
            have HV0 := Lib.hid hv0
            clear hv0 hv00
            go_wp2_with fail
            refine (pB.out _).mono ?_
            rintro e W13 ⟨rfl, b13⟩
            have E13 := HE12.out.below b13
            have M13 := Blk.below HM12.out b13 (Blk.lt HM12.out)
            have hiv : (Tryz.prog.info? 40).map (·.size) = some v0.size := by rw [HV0.out]; exact infoB
            have hov : v0.all (·.oneCell') = true := by rw [HV0.out]; exact bodL_one _
            have hsv : (bodL { b with life := b.life - p }).toArray.size = v0.size := by rw [HV0.out]; rfl
            have HE13 := Lib.hid E13
            have HM13 := Lib.hid M13
            have Hiv := Lib.hid hiv
            have Hov := Lib.hid hov
            have Hsv := Lib.hid hsv
            clear HE12 HM12 E13 M13 hiv hov hsv b13 pB
            go_upto_region 21 with (first | (refine wpList_store_blk (by rfl) 40 _ _ (by rfl) gb v0 (by rfl) (by rfl) _ _ HM13.out Hiv.out Hsv.out Hov.out ?_; intro W14 M14 T14) | fail)
            have E14 := HE13.out.touch HGB.out T14
            have M14' : MB W14 gb (bornB who) := by unfold MB; rw [← HV0.out]; exact M14
            clear HE13 HM13 T14 M14 Hiv Hov Hsv HV0
            obtain ⟨Vb, hVb⟩ : ∃ Vb, Vb = (bodL (bornB who)).toArray := ⟨_, rfl⟩
            have hMV : Blk W14 gb 40 Vb := by rw [hVb]; exact M14'
            have hiV : (Tryz.prog.info? 40).map (·.size) = some Vb.size := by rw [hVb]; exact infoB
            have hoV : Vb.all (·.oneCell') = true := by rw [hVb]; exact bodL_one _
            have htV : W14.there w.heap.size (2 + who * 7) Vb.size := by rw [hVb]; exact E14.st.there (by have := HW.out; simp [bodL]; omega)
            obtain ⟨W15, hW15⟩ : ∃ W15, W14.setCells w.heap.size (2 + who * 7) Vb.toList = W15 := ⟨_, rfl⟩
            have E15 : FlyX w W15 gx (setB (put z (64 + v) (z (64 + v) + 1)) (2 + who * 7) ((bornB who))) n0 n1 s := by
              rw [← hW15, hVb]
              exact E14.cellsG _ _ (E14.st.setBody HW.out _)
            have HW15 := Lib.hid hW15
            have HiV := Lib.hid hiV
            have HoV := Lib.hid hoV
            have HtV := Lib.hid htV
            have HMV := Lib.hid hMV
            have HE15 := Lib.hid E15
            clear hW15 hiV hoV htV hVb hMV E15
            go_upto_region 22 with (first | (refine wpList_load_blk (by rfl) 40 _ (by rfl) gb (by rfl) _ Vb _ HMV.out Tryz.underlying40 (by rfl) HiV.out ?_) | (refine wpList_store_midw (by rfl) 40 _ _ (by rfl) w.heap.size (2 + who * 7) Vb (by rfl) (by rfl) HtV.out HiV.out HoV.out W15 HW15.out ?_) | fail)
            have S9 := HE15.out.st
            rw [← HFA.out] at S9
            have HR9 := Lib.hid HE15.out.res
            have HB9 := Lib.hid HE15.out.lo
            clear HMV HtV HiV HoV HW15 HE15
            obtain ⟨C9, LC9⟩ := let_of (flyF f k n)
            have hS9 := LC9.blk S9
            have R9 := HR9.out
            have B9 := HB9.out
            have hzs : Tryz.zeroCells47.size = C9.size := by rw [LC9.size, ← stA_zero]; exact stA_size _
            have hif := LC9.info
            have hone := LC9.one
            have HC9 := Lib.hid LC9
            clear LC9
            go_wp2_with (first | (refine wpList_load_blk (by rfl) 47 _ (by rfl) w.heap.size (by rfl) _ C9 _ hS9 Tryz.underlying47 (by rfl) hif ?_) | (refine wpList_store_blk (by rfl) 47 _ _ (by rfl) (w.heap.size + 1 + 1) C9 (by rfl) (by rfl) _ _ R9 hif hzs hone ?_; intro W6 hd6 ht6) | fail)
            refine bodyPost_ret (v := .agg C9) (results_blk Tryz.results78 _ _ (w.heap.size + 1 + 1) _ _ _ (by rfl) hd6 Tryz.underlying47 (by rfl) hif) rfl ⟨C9, HC9.out, rfl, ?_⟩
            exact B9.trans (ht6.below B9.size (fun k hk => by omega))
end Go.Proofs.YtckkpgopddnkiaaGreat.Gm
namespace Go.Proofs.YtckkpgopddnkiaaGreat.Gm
open Go.RowKit Go.Sort Go.Proofs.YtckkpgopddnkiaaGreat.Num Go.Proofs.YtckkpgopddnkiaaGreat.Eql
set_option linter.all false

theorem wpStill_load_blk {P : Program} {ops : Array Oper} {w : World} {Q : Act → Prop} {a : Act} {o : Oper} {rest : List Oper} (hgd : o.guard = none) (ty : TypeId) (x : Operand) (ho : o.op = .load ty x)
    (g : Nat) (hx : a.eval x = .pointer (some ⟨g, 0, none⟩)) (t : TypeId) (cs : Array Value) (d : TypeDesc) (hg : Blk w g t cs)
    (hu : P.underlying ty = some d) (hd : (match d with | .struct _ | .array _ _ => true | _ => false) = true) (hi : (P.info? ty).map (·.size) = some cs.size)
    (h : wpStill P ops w Q rest (a.put o.dst (.agg cs))) : wpStill P ops w Q (o :: rest) a := by
  refine wpStill_step fun K hK => ?_
  have hw : Region.wanted o (yielded ops a.tmps) = true := by simp [Region.wanted, hgd]
  rw [if_pos hw]
  unfold Oper.still execOp
  simp only [ho, hx, Instr.loadAt, Instr.sureAddr, Sem.run_bind, Sem.run_pure, Result.andThen_ok, run_loadVar_row w g t ty cs (0, 0) d hg hu hd hi]
  exact ⟨rfl, hK _ h⟩
end Go.Proofs.YtckkpgopddnkiaaGreat.Gm
namespace Go.Proofs.YtckkpgopddnkiaaGreat.Gm
open Go.RowKit Go.Sort Go.Proofs.YtckkpgopddnkiaaGreat.Num
set_option linter.all false
attribute [local go_sem ↓] exec_st26 exec_ld26 exec33 exec_st33
attribute [local go_sem] loadR26 loadI_some rowIn_drew loadR_at cellsAt_drew

theorem storeR_blk {w : World} {g : Nat} {t ty : TypeId} {old cells : Array Value} (hg : Blk w g t old) (hi : (Tryz.prog.info? ty).map (·.size) = some cells.size) (ho : old.size = cells.size) (h1 : cells.all (·.oneCell') = true) :
    ∃ w', storeR Tryz.prog ty (.pointer (some ⟨g, 0, none⟩)) (.agg cells) w = .ok .skip w' ∧ Blk w' g t cells ∧ Touch (fun k => k = g) w w' := by
  refine ⟨w.setRow g cells, ?_, Blk.setRow hg cells, touch_setRow w g cells⟩
  unfold storeR
  simp only [Instr.storeAt, Instr.sureAddr, Sem.run_bind, Sem.run_pure, Result.andThen_ok, run_storeVar_row w g t ty old cells hg hi ho h1]

theorem wpStill_load_mid {P : Program} {ops : Array Oper} {w : World} {Q : Act → Prop} {a : Act} {o : Oper} {rest : List Oper} (hgd : o.guard = none) (ty : TypeId) (x : Operand) (ho : o.op = .load ty x)
    (b off : Nat) (hx : a.eval x = .pointer (some ⟨b, off, none⟩)) (cells : List Value) (d : TypeDesc) (hr : w.rangeAt b off cells)
    (hu : P.underlying ty = some d) (hd : d.isRow = true) (hi : (P.info? ty).map (·.size) = some cells.length)
    (h : wpStill P ops w Q rest (a.put o.dst (.agg cells.toArray))) : wpStill P ops w Q (o :: rest) a := by
  refine wpStill_step fun K hK => ?_
  have hw : Region.wanted o (yielded ops a.tmps) = true := by simp [Region.wanted, hgd]
  rw [if_pos hw]
  unfold Oper.still execOp
  simp only [ho, hx, Sem.run_bind, run_loadAt_mid w b off ty cells d hr hu hd hi, Sem.run_pure, Result.andThen_ok]
  exact ⟨rfl, hK _ h⟩

/-- What lies there while a step is made: the state, the buttons, the result. -/
structure StepX (w W : World) (f : F) (n0 n1 : Nat) : Prop where
  st : SB W w.heap.size 47 f
  inp : Blk W (w.heap.size + 1) 32 #[.int .u16 n0, .int .u16 n1]
  res : Blk W (w.heap.size + 1 + 1) 47 Tryz.zeroCells47
  lo : RowKit.Below w.heap.size w W
section
variable {w W W' : World} {f f' : F} {n0 n1 : Nat}
theorem StepX.below (h : StepX w W f n0 n1) (hb : RowKit.Below W.heap.size W W') : StepX w W' f n0 n1 :=
  ⟨h.st.below hb h.st.lt, h.inp.below hb h.inp.lt, h.res.below hb h.res.lt, h.lo.trans (hb.mono h.lo.size)⟩
theorem StepX.setG (h : StepX w W f n0 n1) (j : Nat) (u : Value) (hs : SB (W.setCell ⟨w.heap.size, j, none⟩ u) w.heap.size 47 f') : StepX w (W.setCell ⟨w.heap.size, j, none⟩ u) f' n0 n1 :=
  ⟨hs, Blk.far h.inp (by simp) u, Blk.far h.res (by simp; omega) u, h.lo.setCell (by simp) u⟩
theorem StepX.touchG (h : StepX w W f n0 n1) (T : Touch (fun k => k = w.heap.size) W W') (hs : SB W' w.heap.size 47 f') : StepX w W' f' n0 n1 :=
  ⟨hs, h.inp.touch T (by omega), h.res.touch T (by omega), h.lo.trans (T.below h.lo.size (fun k hk => by omega))⟩
theorem StepX.cellsG (h : StepX w W f n0 n1) (o : Nat) (L : List Value) (hs : SB (W.setCells w.heap.size o L) w.heap.size 47 f') : StepX w (W.setCells w.heap.size o L) f' n0 n1 :=
  h.touchG (touch_setCells (S := fun k => k = w.heap.size) (Touch.refl _ _) _ (.inl rfl) _ _) hs
end

set_option maxRecDepth 100000 in
set_option maxHeartbeats 8000000 in
theorem rstep_any (w : World) (C : Array Value) (f : F) (fr sc : Int) (n : Nat → Nat) (LC : Let C f) (hn : ∀ i, i < 2 → n i < 65536) (hI : Inv fr sc f) (hsc : sc ≤ 4611686018427387000) (hfr : fr ≤ 4611686018427387904) (hfr0 : 0 ≤ fr) :
    Calls Tryz.prog 53 #[.agg C, inV n] w fun e w' => ∃ C', Let C' (stepF f n) ∧ e = .returned (.agg C') ∧ Below w.heap.size w w' := by
  obtain ⟨W1, hW1⟩ : ∃ W1, W1 = ((w.alloc (.cells C 47)).alloc (.cells #[.int .u16 (n 0), .int .u16 (n 1)] 32)).alloc (.cells Tryz.zeroCells47 47) := ⟨_, rfl⟩
  have E1 : StepX w W1 f (n 0) (n 1) := by
    refine ⟨?_, ?_, ?_, ?_⟩
    · rw [hW1]; exact ((LC.sb (Blk.new w 47 C)).alloc _).alloc _
    · rw [hW1]
      have := (Blk.new (w.alloc (.cells C 47)) 32 #[.int .u16 (n 0), .int .u16 (n 1)]).alloc (.cells Tryz.zeroCells47 47)
      simpa using this
    · rw [hW1]
      have := Blk.new ((w.alloc (.cells C 47)).alloc (.cells #[.int .u16 (n 0), .int .u16 (n 1)] 32)) 47 Tryz.zeroCells47
      simpa using this
    · rw [hW1]; exact (((Below.refl _ w).alloc (Nat.le_refl _) _).alloc (by simp) _).alloc (by simp; omega) _
  have CBX := Lib.hid (show ∀ W, Blk W (w.heap.size + 1) 32 #[.int .u16 (n 0), .int .u16 (n 1)] → ∀ i, i < 2 → W.cell? ⟨w.heap.size + 1, i, none⟩ = some (.int .u16 (n i)) from fun W hW i hi => by
    rw [hW.cell i]
    have e : i = 0 ∨ i = 1 := by omega
    rcases e with rfl | rfl <;> rfl)
  have HN := Lib.hid hn
  have HI := Lib.hid hI
  have hf0 := hI.frame
  have sd0 := hI.seed0
  have sd1 := hI.seed1
  have c0 := E1.st.int (j := 0) (by omega) (by omega) (by omega)
  have c1 := E1.st.seed
  have f0 := E1.st.fr 0
  have f1 := E1.st.fr 1
  rw [hf0] at c0
  have hw1 : IntKind.i64.wrap (fr + 1) = fr + 1 := IntWalk.i64_in _ (by omega)
  have e := show IntKind.u32.wrap (IntKind.u32.wrap (f 1 * 1664525) + 1013904223) = rollV (f 1) by simp [IntKind.wrap, IntKind.bits, IntKind.signed, rollV]
  have e3 : (f 1 * 1664525 + 1013904223) % 4294967296 = rollV (f 1) := by rw [← e]; simp [IntKind.wrap, IntKind.bits, IntKind.signed]
  have e4 : (f 1 * 1664525 % 4294967296 + 1013904223) % 4294967296 = rollV (f 1) := by rw [← e]; simp [IntKind.wrap, IntKind.bits, IntKind.signed]
  have S2 := (E1.st.setInt (j := 0) (by omega) (by omega) (by omega) (fr + 1)).set_ (j := 1) (by omega) (rollV (f 1))
  rw [cv_seed] at S2
  have e2 : put (put f 0 (fr + 1)) 1 (rollV (f 1)) = bodiesF f n 0 := by rw [← hf0]; rfl
  rw [e2] at S2
  have T2 : TG w.heap.size W1 ((W1.setCell ⟨w.heap.size, 0, none⟩ (.int .i64 (fr + 1))).setCell ⟨w.heap.size, 1, none⟩ (.int .u32 (rollV (f 1)))) := TG.set (TG.set (Touch.refl _ _) _ _) _ _
  have E2 := E1.touchG (TG.set (TG.set (Touch.refl _ _) _ _) _ _) S2
  have HE2 := Lib.hid E2
  unfold inV
  clear E1 hn hI hf0 e e2 S2 T2 E2 LC
  go_enter Tryz.func53, Tryz.ntmps53
  go_upto_region 1 with fail
  rw [← hW1]
  clear hW1
  go_upto_region 3 with fail
  rw [e4]
  generalize f 1 * 1664525 % 4294967296 = u13
  clear c0 c1 f0 f1 hw1 e3 e4
  generalize (W1.setCell ⟨w.heap.size, 0, none⟩ (.int .i64 (fr + 1))).setCell ⟨w.heap.size, 1, none⟩ (.int .u32 (rollV (f 1))) = W2 at *
  go_wp2_with fail
  go_loopw [5] (fun iv wr => ∃ i : Nat, i ≤ 2 ∧ iv = .int .i64 i ∧ StepX w wr (bodiesF f n i) (n 0) (n 1)) (fun iv _ => 2 - (intOf iv).toNat)
  case atStart => exact ⟨0, by omega, rfl, HE2.out⟩
  case round =>
    clear HE2
    obtain ⟨i, hi, rfl, hE⟩ := hrel
    by_cases hlt : i < 2
    · have i1 : (0 : Int) ≤ (i : Int) := by omega
      have i2 : (i : Int) < 2 := by omega
      have hInv := HI.out.bodies n i hi
      have hb := hInv.b i hlt
      have hni := HN.out i hlt
      have cI := CBX.out wr hE.inp i hlt
      have HL := Lib.hid hlt
      have HES := Lib.hid (show bodiesF f n (i + 1) = fireF (setB (bodiesF f n i) (2 + i * 7) (moveB (bod (bodiesF f n i) (2 + i * 7)) (n i))) i (n i) from rfl)
      obtain ⟨Lb, hLb⟩ : ∃ Lb, Lb = bodL (bod (bodiesF f n i) (2 + i * 7)) := ⟨_, rfl⟩
      have hrow : wr.rangeAt w.heap.size (2 + i * 7) Lb := by rw [hLb]; exact hE.st.bodR hlt
      have hiB : (Tryz.prog.info? 40).map (·.size) = some Lb.length := by rw [hLb]; exact infoB
      obtain ⟨v1, hv1, hv2⟩ : ∃ v1, v1 = (bodL (moveB (bod (bodiesF f n i) (2 + i * 7)) (n i))).toArray ∧ bodV (moveB (bod (bodiesF f n i) (2 + i * 7)) (n i)) = .agg v1 := ⟨_, rfl, rfl⟩
      have pM := Lib.hid (fun W => rmove_any W (n i) (bod (bodiesF f n i) (2 + i * 7)) hni hb)
      rw [hv2, show bodV (bod (bodiesF f n i) (2 + i * 7)) = .agg Lb.toArray by rw [hLb]; rfl] at pM
      have HiV := Lib.hid (show (Tryz.prog.info? 40).map (·.size) = some v1.size by rw [hv1]; exact infoB)
      have HoV := Lib.hid (show v1.all (·.oneCell') = true by rw [hv1]; exact bodL_one _)
      have HLb := Lib.hid (show Lb.length = 7 by rw [hLb]; rfl)
      have st := Lib.hid (show ∀ W, RowKit.Below wr.heap.size wr W → ∃ W', storeR Tryz.prog 40 (.pointer (some ⟨w.heap.size, 2 + i * 7, none⟩)) (.agg v1) W = .ok .skip W' ∧ StepX w W' (setB (bodiesF f n i) (2 + i * 7) (moveB (bod (bodiesF f n i) (2 + i * 7)) (n i))) (n 0) (n 1) from fun W hb => by
        have hEW := hE.below hb
        refine ⟨_, storeR_mid (by rw [hv1]; exact hEW.st.there (by simp [bodL]; omega)) (by rw [hv1]; exact infoB) (by rw [hv1]; exact bodL_one _) rfl, ?_⟩
        rw [hv1]
        exact hEW.cellsG _ _ (hEW.st.setBody hlt _))
      have HBO := Lib.hid (moveB_ok hb (n i))
      clear hInv hb hE hni hlt hv2 hv1 hLb
      go_upto_region 6 with fail
      have hrow' : rowIn wr.drew w.heap.size (2 + i * 7) 7 = some Lb := by rw [rowIn_drew]; exact rowIn_of hrow HLb.out
      go_cut [] (fun wx => StepX w wx (setB (bodiesF f n i) (2 + i * 7) (moveB (bod (bodiesF f n i) (2 + i * 7)) (n i))) (n 0) (n 1))
      case first =>
        go_region_law (go_simp; go_at_call 76; refine (pM.out _).mono ?_; rintro e w3 ⟨rfl, h3⟩; obtain ⟨w4, hst, E4⟩ := st.out w3 ⟨h3.os, h3.tape, h3.output, h3.size, h3.block⟩)
        all_goals
          go_wp2_with fail
          go_meet
          exact E4
      case rest =>
      have HE5 := Lib.hid hcut
      clear hcut st pM hrow hrow' hiB cI
      go_upto_region 7 with fail
      clear HiV HoV
      obtain ⟨C5, LC5⟩ := let_of (setB (bodiesF f n i) (2 + i * 7) (moveB (bod (bodiesF f n i) (2 + i * 7)) (n i)))
      have E5 := HE5.out
      have hX := LC5.blk E5.st
      have hif5 := LC5.info
      have cI := CBX.out wc E5.inp i HL.out
      have pF := Lib.hid (fun W => rfire_any W C5 _ i (n i) LC5 HL.out (HN.out i HL.out) (by rw [setB_bod]; exact HBO.out))
      rw [← HES.out] at pF
      have HSZ := Lib.hid LC5.size
      have HL5 := Lib.hid LC5
      clear E5 LC5 HES HBO
      refine wp_region_still_tail 5 (by kernel_rfl) (by kernel_rfl) ?_
      simp only [List.take_succ_cons, List.take_zero, List.drop_succ_cons, List.drop_zero]
      refine wpStill_load_blk (by rfl) 47 _ (by rfl) w.heap.size (by rfl) _ C5 _ hX.drew Tryz.underlying47 (by rfl) hif5 ?_
      iterate 4 still_step
      refine wpStill_nil ?_
      change wpList _ _ _ _ _ (World.drew _)
      go_wp2_with fail
      refine (pF.out _).mono ?_
      rintro e w5 ⟨C6, LC6, rfl, h3⟩
      have h3' : Below wc.heap.size wc w5 := ⟨h3.os, h3.tape, h3.output, h3.size, h3.block⟩
      have E5 := HE5.out.below h3'
      have X5 := HL5.out.blk E5.st
      have hif6 := LC6.info
      have hone6 := LC6.one
      have hsz6 : C5.size = C6.size := by rw [HSZ.out]; exact LC6.size.symm
      have HC6 := Lib.hid LC6
      have HE6 := Lib.hid E5
      clear hX hif5 cI pF LC6 E5 h3 h3' HE5
      go_wp2_with (refine wpList_store_blk (by rfl) 47 _ _ (by rfl) w.heap.size C6 (by rfl) (by rfl) _ C5 X5 hif6 hsz6 hone6 ?_; intro W6 hd6 ht6)
      have E6 := HE6.out.touchG ht6 (HC6.out.sb hd6)
      have hlt := HL.out
      clear X5 hif6 hone6 hsz6 hd6 ht6 HL5 HSZ
      go_wp2_with fail
      go_roundw
      case rel => exact ⟨i + 1, by omega, by go_num, E6⟩
      case measure => simp [intOf]; omega
    · obtain rfl : i = 2 := by omega
      rw [show ((2 : Nat) : Int) = 2 from rfl]
      have HST := Lib.hid (step_eq f n)
      have HI2 := Lib.hid (HI.out.bodies n 2 (by omega))
      have HE2 := Lib.hid hE
      generalize bodiesF f n 2 = F0 at *
      clear hlt hi HI hE
      go_wp2_with fail
      go_loopw [6] (fun kv wr => ∃ k : Nat, k ≤ 8 ∧ kv = .int .i64 k ∧ StepX w wr (fliesF F0 n k) (n 0) (n 1)) (fun kv _ => 8 - (intOf kv).toNat)
      case atStart => exact ⟨0, by omega, rfl, HE2.out⟩
      case round =>
        clear HE2
        obtain ⟨k, hk, rfl, hE⟩ := hrel
        by_cases hlt : k < 8
        · have k1 : (0 : Int) ≤ (k : Int) := by omega
          have k2 : (k : Int) < 8 := by omega
          have con := hE.st.on hlt
          have hInv := HI2.out.flies n k hk
          have HES := Lib.hid (show fliesF F0 n (k + 1) = if fliesF F0 n k (16 + k * 6) = 0 then fliesF F0 n k else flyF (fliesF F0 n k) k n from rfl)
          by_cases hon : fliesF F0 n k (16 + k * 6) = 0
          · rw [onB_no hon] at con
            have HES2 := HES.out
            rw [if_pos hon] at HES2
            have HES3 := Lib.hid HES2
            have HE := Lib.hid hE
            clear HES HES2 hon hE hInv
            go_wp2_with fail
            go_roundw
            case rel => exact ⟨k + 1, by omega, by go_num, by rw [HES3.out]; exact HE.out⟩
            case measure => simp [intOf]; omega
          · rw [onB_yes hon] at con
            have HES2 := HES.out
            rw [if_neg hon] at HES2
            have HES3 := Lib.hid HES2
            have d0 := hE.inp.cell 0
            have d1 := hE.inp.cell 1
            obtain ⟨C5, LC5⟩ := let_of (fliesF F0 n k)
            have p1 := Lib.hid (rfly_any wr C5 _ _ _ k n LC5 hlt HN.out hInv (by omega) hon)
            unfold inV at p1
            have hS5 := LC5.blk hE.st
            have hif5 := LC5.info
            have HSZ := Lib.hid LC5.size
            have HS5 := Lib.hid LC5
            have HE := Lib.hid hE
            clear HES HES2 hon hE hInv LC5
            go_wp2_with (refine wpList_load_blk (by rfl) 47 _ (by rfl) w.heap.size (by rfl) _ C5 _ hS5 Tryz.underlying47 (by rfl) hif5 ?_)
            refine p1.out.mono ?_
            rintro e w3 ⟨C6, LC6, rfl, h3⟩
            have E3 := HE.out.below h3
            have X3 := HS5.out.blk E3.st
            have hif6 := LC6.info
            have hone6 := LC6.one
            have hsz6 : C5.size = C6.size := by rw [HSZ.out]; exact LC6.size.symm
            have HC6 := Lib.hid LC6
            have HE3 := Lib.hid E3
            clear hS5 hif5 d0 d1 p1 LC6 E3 h3
            go_wp2_with (refine wpList_store_blk (by rfl) 47 _ _ (by rfl) w.heap.size C6 (by rfl) (by rfl) _ C5 X3 hif6 hsz6 hone6 ?_; intro W6 hd6 ht6)
            have E6 := HE3.out.touchG ht6 (HC6.out.sb hd6)
            clear X3 hif6 hone6 hsz6 hd6 ht6
            go_wp2_with fail
            go_roundw
            case rel => exact ⟨k + 1, by omega, by go_num, by rw [HES3.out]; exact E6⟩
            case measure => simp [intOf]; omega
        · obtain rfl : k = 8 := by omega
          rw [← HST.out] at hE
          clear hlt hk CBX HN HI2 HST
          obtain ⟨C9, LC9⟩ := let_of (stepF f n)
          have hS9 := LC9.blk hE.st
          have R9 := hE.res
          have B9 := hE.lo
          have hzs : Tryz.zeroCells47.size = C9.size := by rw [LC9.size, ← stA_zero]; exact stA_size _
          have hif := LC9.info
          have hone := LC9.one
          have HC9 := Lib.hid LC9
          clear LC9 hE
          go_wp2_with (first | (refine wpList_load_blk (by rfl) 47 _ (by rfl) w.heap.size (by rfl) _ C9 _ hS9 Tryz.underlying47 (by rfl) hif ?_) | (refine wpList_store_blk (by rfl) 47 _ _ (by rfl) (w.heap.size + 1 + 1) C9 (by rfl) (by rfl) _ _ R9 hif hzs hone ?_; intro W6 hd6 ht6) | fail)
          refine bodyPost_ret (v := .agg C9) (results_blk Tryz.results53 _ _ (w.heap.size + 1 + 1) _ _ _ (by rfl) hd6 Tryz.underlying47 (by rfl) hif) rfl ⟨C9, HC9.out, rfl, ?_⟩
          exact B9.trans (ht6.below B9.size (fun k hk => by omega))
end Go.Proofs.YtckkpgopddnkiaaGreat.Gm
namespace Go.Proofs.YtckkpgopddnkiaaGreat.Gm
open Go.RowKit Go.Sort Go.Proofs.YtckkpgopddnkiaaGreat.Num
set_option linter.all false

/-- What lies there while it is played: the state, the result. -/
structure PlayX (w W : World) (f : F) : Prop where
  st : SB W w.heap.size 47 f
  res : Blk W (w.heap.size + 1) 47 Tryz.zeroCells47
  lo : RowKit.Below w.heap.size w W
theorem PlayX.below {w W W' : World} {f : F} (h : PlayX w W f) (hb : RowKit.Below W.heap.size W W') : PlayX w W' f :=
  ⟨h.st.below hb h.st.lt, h.res.below hb h.res.lt, h.lo.trans (hb.mono h.lo.size)⟩
theorem PlayX.touchG {w W W' : World} {f f' : F} (h : PlayX w W f) (T : Touch (fun k => k = w.heap.size) W W') (hs : SB W' w.heap.size 47 f') : PlayX w W' f' :=
  ⟨hs, h.res.touch T (by omega), h.lo.trans (T.below h.lo.size (fun k hk => by omega))⟩

set_option maxRecDepth 100000 in
set_option maxHeartbeats 8000000 in
theorem rplay_any (w : World) (C : Array Value) (f : F) (fr sc : Int) (a : Option Addr) (c : Nat) (ls : List (Nat × Nat)) (LC : Let C f) (hr : InRow w a ls) (hI : Inv fr sc f) (hl : ls.length ≤ 281474976710656) (hsc : sc ≤ 281474976710656) (hfr : fr ≤ 281474976710656) (hfr0 : 0 ≤ fr) :
    Calls Tryz.prog 28 #[.agg C, .slice a ls.length c] w fun e w' => ∃ C', Let C' (playF f ls ls.length) ∧ e = .returned (.agg C') ∧ Below w.heap.size w w' := by
  obtain ⟨W1, hW1⟩ : ∃ W1, W1 = (w.alloc (.cells C 47)).alloc (.cells Tryz.zeroCells47 47) := ⟨_, rfl⟩
  have E1 : PlayX w W1 f := by
    refine ⟨?_, ?_, ?_⟩
    · rw [hW1]; exact (LC.sb (Blk.new w 47 C)).alloc _
    · rw [hW1]
      have := Blk.new (w.alloc (.cells C 47)) 47 Tryz.zeroCells47
      simpa using this
    · rw [hW1]; exact ((Below.refl _ w).alloc (Nat.le_refl _) _).alloc (by simp) _
  have HR := Lib.hid hr
  have HI := Lib.hid hI
  have HE1 := Lib.hid E1
  clear hr hI E1 LC
  go_enter Tryz.func28, Tryz.ntmps28
  go_upto_region 1 with fail
  rw [← hW1]
  clear hW1
  go_wp2_with fail
  go_loopw [5] (fun iv wr => ∃ k : Nat, k ≤ ls.length ∧ iv = .int .i64 k ∧ PlayX w wr (playF f ls k)) (fun iv _ => ls.length - (intOf iv).toNat)
  case atStart => exact ⟨0, by omega, rfl, HE1.out⟩
  case round =>
    clear HE1
    obtain ⟨k, hk, rfl, hE⟩ := hrel
    by_cases hlt : k < ls.length
    · obtain ⟨gb, ob, rfl, hgb, hcb⟩ := (HR.out.below hE.lo).2 (by omega)
      obtain ⟨c0, c1⟩ := hcb k hlt
      have i0 : (k : Int) < (ls.length : Int) := by omega
      have i1 : (0 : Int) ≤ (k : Int) := by omega
      have hInv := HI.out.play ls k
      have HE := Lib.hid (show playF f ls (k + 1) = stepF (playF f ls k) (inA ls k) from rfl)
      obtain ⟨C5, LC5⟩ := let_of (playF f ls k)
      have pS := Lib.hid (fun W => rstep_any W C5 (playF f ls k) _ _ (inA ls k) LC5 (inA_lt HR.out.1 k) hInv (by omega) (by omega) (by omega))
      rw [← HE.out] at pS
      unfold inV at pS
      have hX := LC5.blk hE.st
      have hif5 := LC5.info
      have HSZ := Lib.hid LC5.size
      have HL5 := Lib.hid LC5
      have HE5 := Lib.hid hE
      have HL := Lib.hid hlt
      clear hE LC5 hInv HE hcb hlt
      generalize inA ls k 0 = n0 at *
      generalize inA ls k 1 = n1 at *
      go_upto_region 4 with fail
      refine wp_region_still_tail 5 (by kernel_rfl) (by kernel_rfl) ?_
      simp only [List.take_succ_cons, List.take_zero, List.drop_succ_cons, List.drop_zero]
      refine wpStill_load_blk (by rfl) 47 _ (by rfl) w.heap.size (by rfl) _ C5 _ hX.drew Tryz.underlying47 (by rfl) hif5 ?_
      iterate 4 still_step
      refine wpStill_nil ?_
      change wpList _ _ _ _ _ (World.drew _)
      go_wp2_with fail
      refine (pS.out _).mono ?_
      rintro e w5 ⟨C6, LC6, rfl, h3⟩
      have h3' : Below wr.heap.size wr w5 := ⟨h3.os, h3.tape, h3.output, h3.size, h3.block⟩
      have E5 := HE5.out.below h3'
      have X5 := HL5.out.blk E5.st
      have hif6 := LC6.info
      have hone6 := LC6.one
      have hsz6 : C5.size = C6.size := by rw [HSZ.out]; exact LC6.size.symm
      have HC6 := Lib.hid LC6
      have HE6 := Lib.hid E5
      clear hX hif5 c0 c1 pS LC6 E5 h3 h3' HE5
      go_wp2_with (refine wpList_store_blk (by rfl) 47 _ _ (by rfl) w.heap.size C6 (by rfl) (by rfl) _ C5 X5 hif6 hsz6 hone6 ?_; intro W6 hd6 ht6)
      have E6 := HE6.out.touchG ht6 (HC6.out.sb hd6)
      have hlt := HL.out
      clear X5 hif6 hone6 hsz6 hd6 ht6 HL5 HSZ
      go_wp2_with fail
      go_roundw
      case rel => exact ⟨k + 1, by omega, by go_num, E6⟩
      case measure => simp [intOf]; omega
    · obtain rfl : k = ls.length := by omega
      clear hlt hk HI HR
      obtain ⟨C9, LC9⟩ := let_of (playF f ls ls.length)
      have hS9 := LC9.blk hE.st
      have R9 := hE.res
      have B9 := hE.lo
      have hzs : Tryz.zeroCells47.size = C9.size := by rw [LC9.size, ← stA_zero]; exact stA_size _
      have hif := LC9.info
      have hone := LC9.one
      have HC9 := Lib.hid LC9
      clear LC9 hE
      go_wp2_with (first | (refine wpList_load_blk (by rfl) 47 _ (by rfl) w.heap.size (by rfl) _ C9 _ hS9 Tryz.underlying47 (by rfl) hif ?_) | (refine wpList_store_blk (by rfl) 47 _ _ (by rfl) (w.heap.size + 1) C9 (by rfl) (by rfl) _ _ R9 hif hzs hone ?_; intro W6 hd6 ht6) | fail)
      refine bodyPost_ret (v := .agg C9) (results_blk Tryz.results28 _ _ (w.heap.size + 1) _ _ _ (by rfl) hd6 Tryz.underlying47 (by rfl) hif) rfl ⟨C9, HC9.out, rfl, ?_⟩
      exact B9.trans (ht6.below B9.size (fun k hk => by omega))
end Go.Proofs.YtckkpgopddnkiaaGreat.Gm
