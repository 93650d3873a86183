/-
  What a player presses: the document's Choose.
-/
import Derived.Test.YtblnfkhaicjeaaaBotD
import Derived.Test.YtblnfkhaicjeaaaBotE
namespace Go.Proofs.Ytblnfkhaicjeaaa.Bot
open Go.RowKit Go.Proofs.Ytblnfkhaicjeaaa.Num Go.Proofs.Ytblnfkhaicjeaaa.Gm Go.Proofs.Ytblnfkhaicjeaaa.Byt
set_option linter.all false
attribute [local go_sem ↓] exec33
attribute [local go_sem] loadR_at cellsAt_drew

def BV (w : World) (g : Nat) (who : Nat) (s : Int) (bold : Nat) : Prop := Blk w g 57 #[.int .i64 who, .int .u32 s, .int .i64 bold]
theorem ib57 : (Try.prog.info? 57).map (·.size) = some 3 := by kernel_rfl
/-- What lies there while the document's player chooses. -/
structure RX (w W : World) (go gt : Nat) (who : Nat) (s : Int) (bold : Nat) (C : Array Value) (own oth : Body) : Prop where
  b : BV W w.heap.size who s bold
  st : Blk W (w.heap.size + 1) 33 C
  r : BV W (w.heap.size + 1 + 1) 0 0 0
  mo : MB W go own
  mt : MB W gt oth
  lo : Below w.heap.size w W
  ho : w.heap.size + 1 + 1 < go
  ht : w.heap.size + 1 + 1 < gt
section
variable {w W W' : World} {go gt who bold : Nat} {s t : Int} {C : Array Value} {own oth : Body}
theorem RX.below (h : RX w W go gt who s bold C own oth) (hb : RowKit.Below W.heap.size W W') : RX w W' go gt who s bold C own oth :=
  ⟨Blk.below h.b hb (Blk.lt h.b), Blk.below h.st hb (Blk.lt h.st), Blk.below h.r hb (Blk.lt h.r), MB.below h.mo hb (Blk.lt h.mo), MB.below h.mt hb (Blk.lt h.mt), h.lo.trans (hb.mono h.lo.size), h.ho, h.ht⟩
theorem RX.roll (h : RX w W go gt who s bold C own oth) (hb : BV W' w.heap.size who t bold) (T : Touch (fun k => k = w.heap.size) W W') : RX w W' go gt who t bold C own oth := by
  have h1 := h.ho
  have h2 := h.ht
  exact ⟨hb, Blk.touch h.st T (by omega), Blk.touch h.r T (by omega), Blk.touch h.mo T (by omega), Blk.touch h.mt T (by omega), h.lo.trans (T.below h.lo.size (fun k hk => by omega)), h1, h2⟩
end

theorem rch_results (tmps : Array Value) (W : World) (g n who bold : Nat) (s : Int) (h : BV W g who s bold) (h4 : tmps.getD 4 undef = .pointer (some ⟨g, 0, none⟩)) (h5 : tmps.getD 5 undef = .int .u16 n) :
    (results Try.f30 tmps).run Try.prog W = .ok (.tuple #[.agg #[.int .i64 who, .int .u32 s, .int .i64 bold], .int .u16 n]) W := by
  have k0 : W.cell? ⟨g, 0, none⟩ = some (.int .i64 who) := Blk.cell h 0
  have k1 : W.cell? ⟨g, 1, none⟩ = some (.int .u32 s) := Blk.cell h 1
  have k2 : W.cell? ⟨g, 2, none⟩ = some (.int .i64 bold) := Blk.cell h 2
  have e4 : tmps[4]?.getD undef = .pointer (some ⟨g, 0, none⟩) := by simpa using h4
  have e5 : tmps[5]?.getD undef = .int .u16 n := by simpa using h5
  simp [results, Try.results30, go_sem, e4, e5, k0, k1, k2]

set_option maxRecDepth 100000 in
set_option maxHeartbeats 8000000 in
theorem rchoose_any (w : World) (who bold : Nat) (s : Int) (C : Array Value) (f : F) (LC : Let C f) (hw : Wf f) (hwho : who < 2) (hbo : bold ≤ 16) (h0 : 0 ≤ s) (h1 : s < 4294967296) :
    Calls Try.prog 30 #[botV who s bold, .agg C] w fun e w' =>
      e = .returned (.tuple #[botV who (chooseS (dangerV f who) s bold) bold, .int .u16 (chooseN (bod f (2 + who * 7)) (bod f (2 + (1 - who) * 7)) (dangerV f who) s bold)]) ∧ Below w.heap.size w w' := by
  obtain ⟨W1, hW1⟩ : ∃ W1, W1 = ((w.alloc (.cells #[.int .i64 who, .int .u32 s, .int .i64 bold] 57)).alloc (.cells C 33)).alloc (.cells #[.int .i64 0, .int .u32 0, .int .i64 0] 57) := ⟨_, rfl⟩
  have hV : BV W1 w.heap.size who s bold := by rw [hW1]; exact ((Blk.new w _ _).alloc _).alloc _
  have hS : SB W1 (w.heap.size + 1) 33 f := by
    rw [hW1]
    have := (LC.sb (Blk.new (w.alloc (.cells #[.int .i64 who, .int .u32 s, .int .i64 bold] 57)) 33 C)).alloc (.cells #[.int .i64 0, .int .u32 0, .int .i64 0] 57)
    simpa using this
  have hR : BV W1 (w.heap.size + 1 + 1) 0 0 0 := by
    rw [hW1]
    have := Blk.new ((w.alloc (.cells #[.int .i64 who, .int .u32 s, .int .i64 bold] 57)).alloc (.cells C 33)) 57 #[.int .i64 0, .int .u32 0, .int .i64 0]
    unfold BV
    simpa using this
  have hB : Below w.heap.size w W1 := by rw [hW1]; exact (((Below.refl _ w).alloc (Nat.le_refl _) _).alloc (by simp) _).alloc (by simp; omega) _
  have hz : w.heap.size + 1 + 1 + 1 = W1.heap.size := by rw [hW1]; simp
  obtain ⟨ot, hot⟩ : ∃ ot, ot = 1 - who := ⟨_, rfl⟩
  rw [← hot]
  have hot2 : ot < 2 := by omega
  have hsub : (1 : Int) - (who : Int) = (ot : Int) := by omega
  have fo := body_fit hw (2 + who * 7) (by omega)
  have ft := body_fit hw (2 + ot * 7) (by omega)
  have ro := hS.bodR hwho
  have rt := hS.bodR hot2
  have pD := Lib.hid (fun W => rdanger_any W C f who LC hw hwho)
  generalize dangerV f who = dg at *
  generalize bod f (2 + who * 7) = own at *
  generalize bod f (2 + ot * 7) = oth at *
  have pW := Lib.hid (fun W => rway_any W own oth fo ft)
  have pN := Lib.hid (fun W => rfar_any W own.y oth.y fo.y0 fo.y1 ft.y0 ft.y1)
  have pT := Lib.hid (fun W => rtoward_any W own oth)
  have hst := LC.blk hS
  have w1 : (0 : Int) ≤ (who : Int) := by omega
  have w2 : (who : Int) < 2 := by omega
  have w3 : (0 : Int) ≤ (ot : Int) := by omega
  have w4 : (ot : Int) < 2 := by omega
  have HRX := Lib.hid (show ∀ W go gt, Below W1.heap.size W1 W → MB W go own → MB W gt oth → W1.heap.size ≤ go → W1.heap.size ≤ gt → RX w W go gt who s bold C own oth from fun W go gt hb h1 h2 h3 h4 =>
    ⟨Blk.below hV hb (Blk.lt hV), Blk.below hst hb (Blk.lt hst), Blk.below hR hb (Blk.lt hR), h1, h2, hB.trans (hb.mono hB.size), by omega, by omega⟩)
  have cv0 : W1.cell? ⟨w.heap.size, 0, none⟩ = some (.int .i64 who) := Blk.cell hV 0
  have a0 : W1.cell? ⟨w.heap.size + 1, 2 + who * 7, none⟩ = some (.int .i64 own.x) := ro 0 _ rfl
  have b0 : W1.cell? ⟨w.heap.size + 1, 2 + ot * 7, none⟩ = some (.int .i64 oth.x) := rt 0 _ rfl
  have a1 : W1.cell? ⟨w.heap.size + 1, 2 + who * 7 + 1, none⟩ = some (.int .i64 own.y) := ro 1 _ rfl
  have b1 : W1.cell? ⟨w.heap.size + 1, 2 + ot * 7 + 1, none⟩ = some (.int .i64 oth.y) := rt 1 _ rfl
  have a2 : W1.cell? ⟨w.heap.size + 1, 2 + who * 7 + 2, none⟩ = some (.int .i64 own.vx) := ro 2 _ rfl
  have b2 : W1.cell? ⟨w.heap.size + 1, 2 + ot * 7 + 2, none⟩ = some (.int .i64 oth.vx) := rt 2 _ rfl
  have a3 : W1.cell? ⟨w.heap.size + 1, 2 + who * 7 + 3, none⟩ = some (.int .i64 own.vy) := ro 3 _ rfl
  have b3 : W1.cell? ⟨w.heap.size + 1, 2 + ot * 7 + 3, none⟩ = some (.int .i64 oth.vy) := rt 3 _ rfl
  have a4 : W1.cell? ⟨w.heap.size + 1, 2 + who * 7 + 4, none⟩ = some (.int .i64 own.life) := ro 4 _ rfl
  have b4 : W1.cell? ⟨w.heap.size + 1, 2 + ot * 7 + 4, none⟩ = some (.int .i64 oth.life) := rt 4 _ rfl
  have a5 : W1.cell? ⟨w.heap.size + 1, 2 + who * 7 + 5, none⟩ = some (.int .i64 own.cool) := ro 5 _ rfl
  have b5 : W1.cell? ⟨w.heap.size + 1, 2 + ot * 7 + 5, none⟩ = some (.int .i64 oth.cool) := rt 5 _ rfl
  have a6 : W1.cell? ⟨w.heap.size + 1, 2 + who * 7 + 6, none⟩ = some (.int .i64 own.facing) := ro 6 _ rfl
  have b6 : W1.cell? ⟨w.heap.size + 1, 2 + ot * 7 + 6, none⟩ = some (.int .i64 oth.facing) := rt 6 _ rfl
  clear ro rt
  have hwr : IntKind.i64.wrap (ot : Int) = ot := IntWalk.i64_in _ (by omega)
  have q1 := World.new_ne W1 _ a0
  have q3 : ¬ w.heap.size + 1 = W1.heap.size + 1 := by omega
  have E1 := Lib.hid (HRX.out (((W1.alloc (.cells (bodL own).toArray 26)).alloc (.cells (bodL oth).toArray 26)).drew) W1.heap.size (W1.heap.size + 1) ((((Below.refl _ W1).alloc (Nat.le_refl _) _).alloc (by simp) _).drew) ((Blk.new W1 26 (bodL own).toArray).alloc _) (by have := Blk.new (W1.alloc (.cells (bodL own).toArray 26)) 26 (bodL oth).toArray; exact Blk.drew (by simpa using this)) (Nat.le_refl _) (by omega))
  have E2 := Lib.hid (HRX.out (((W1.alloc (.cells (bodL oth).toArray 26)).alloc (.cells (bodL own).toArray 26)).drew) (W1.heap.size + 1) W1.heap.size ((((Below.refl _ W1).alloc (Nat.le_refl _) _).alloc (by simp) _).drew) (by have := Blk.new (W1.alloc (.cells (bodL oth).toArray 26)) 26 (bodL own).toArray; exact Blk.drew (by simpa using this)) ((Blk.new W1 26 (bodL oth).toArray).alloc _) (by omega) (Nat.le_refl _))
  clear hS hst hB hV hR hot hw hwho hot2 fo ft
  unfold botV at *
  go_enter Try.func30, Try.ntmps30
  go_upto_region 1 with fail
  rw [← hW1]
  clear hW1
  have HZ := Lib.hid hz
  clear hz
  go_upto_region 2 with fail
  clear cv0
  go_cut [7, 8] (fun v5 v6 wx => ∃ go gt, v5 = .pointer (some ⟨go, 0, none⟩) ∧ v6 = .pointer (some ⟨gt, 0, none⟩) ∧ RX w wx go gt who s bold C own oth)
  case first =>
    clear pD pW pN pT
    go_region_held3 (fun w' => w'.cell? ⟨w.heap.size + 1, 2 + who * 7, none⟩ = some (.int .i64 own.x) ∧ w'.cell? ⟨w.heap.size + 1, 2 + who * 7 + 1, none⟩ = some (.int .i64 own.y) ∧ w'.cell? ⟨w.heap.size + 1, 2 + who * 7 + 2, none⟩ = some (.int .i64 own.vx) ∧ w'.cell? ⟨w.heap.size + 1, 2 + who * 7 + 3, none⟩ = some (.int .i64 own.vy) ∧ w'.cell? ⟨w.heap.size + 1, 2 + who * 7 + 4, none⟩ = some (.int .i64 own.life) ∧ w'.cell? ⟨w.heap.size + 1, 2 + who * 7 + 5, none⟩ = some (.int .i64 own.cool) ∧ w'.cell? ⟨w.heap.size + 1, 2 + who * 7 + 6, none⟩ = some (.int .i64 own.facing) ∧ w'.cell? ⟨w.heap.size + 1, 2 + ot * 7, none⟩ = some (.int .i64 oth.x) ∧ w'.cell? ⟨w.heap.size + 1, 2 + ot * 7 + 1, none⟩ = some (.int .i64 oth.y) ∧ w'.cell? ⟨w.heap.size + 1, 2 + ot * 7 + 2, none⟩ = some (.int .i64 oth.vx) ∧ w'.cell? ⟨w.heap.size + 1, 2 + ot * 7 + 3, none⟩ = some (.int .i64 oth.vy) ∧ w'.cell? ⟨w.heap.size + 1, 2 + ot * 7 + 4, none⟩ = some (.int .i64 oth.life) ∧ w'.cell? ⟨w.heap.size + 1, 2 + ot * 7 + 5, none⟩ = some (.int .i64 oth.cool) ∧ w'.cell? ⟨w.heap.size + 1, 2 + ot * 7 + 6, none⟩ = some (.int .i64 oth.facing)) (go_keep) (fail)
    all_goals
      go_wp2_with fail
      go_meet
      first
        | exact ⟨_, _, rfl, rfl, E1.out⟩
        | exact ⟨_, _, rfl, rfl, E2.out⟩
  case rest =>
    obtain ⟨go, gt, rfl, rfl, hE⟩ := hcut
    clear E1 E2 HRX a0 a1 a2 a3 a4 a5 a6 b0 b1 b2 b3 b4 b5 b6 hwr q1 q3 hsub HZ
    obtain ⟨d, hd⟩ : ∃ d, drawV s 16 = d := ⟨_, rfl⟩
    have hdi := drawV_in s (m := 16) (by omega)
    have pC1 := Lib.hid (show ∀ W, Calls Try.prog 67 #[.agg #[.int .i64 who, .int .u32 s, .int .i64 bold], .int .u32 16] W fun e w' => e = .returned (.tuple #[.agg #[.int .i64 who, .int .u32 (rollV s), .int .i64 bold], .int .i64 (drawV s 16)]) ∧ Below W.heap.size W w' from fun W => rchance_any W who bold 16 s h0 h1 (by omega) (by omega))
    have r1 := rollV_in s
    have HN := Lib.hid (show chooseN own oth dg s bold = if (bold : Int) ≤ drawV s 16 ∧ drawV s 16 % 2 = 1 then whimN (drawV (rollV s) 8).toNat else restN own oth dg s from rfl)
    have HS := Lib.hid (show chooseS dg s bold = if (bold : Int) ≤ drawV s 16 ∧ drawV s 16 % 2 = 1 then rollV (rollV s) else if dg = true then rollV (rollV s) else rollV s from rfl)
    have HR := Lib.hid (show restN own oth dg s = if dg = true then (if drawV (rollV s) 2 = 0 then wayV own oth + 4 else 32)
      else if facesV own oth = true then (if own.cool = 0 ∧ nearV own.y oth.y 393216 = true then wayV own oth + 16 else wayV own oth) else towV own.x oth.x from rfl)
    rw [hd] at pC1 HN HS hdi
    have hd0 : 0 ≤ d := hdi.1
    have hd1 : d < 16 := hdi.2
    clear hd hdi
    generalize rollV s = s1 at *
    obtain ⟨n8, hn8⟩ : ∃ n8 : Nat, drawV s1 8 = (n8 : Int) := ⟨(drawV s1 8).toNat, by have := drawV_in s1 (m := 8) (by omega); omega⟩
    have hn8l : n8 < 8 := by have := drawV_in s1 (m := 8) (by omega); omega
    have pC8 := Lib.hid (show ∀ W, Calls Try.prog 67 #[.agg #[.int .i64 who, .int .u32 s1, .int .i64 bold], .int .u32 8] W fun e w' => e = .returned (.tuple #[.agg #[.int .i64 who, .int .u32 (rollV s1), .int .i64 bold], .int .i64 (drawV s1 8)]) ∧ Below W.heap.size W w' from fun W => rchance_any W who bold 8 s1 r1.1 r1.2 (by omega) (by omega))
    have pC2 := Lib.hid (show ∀ W, Calls Try.prog 67 #[.agg #[.int .i64 who, .int .u32 s1, .int .i64 bold], .int .u32 2] W fun e w' => e = .returned (.tuple #[.agg #[.int .i64 who, .int .u32 (rollV s1), .int .i64 bold], .int .i64 (drawV s1 2)]) ∧ Below W.heap.size W w' from fun W => rchance_any W who bold 2 s1 r1.1 r1.2 (by omega) (by omega))
    rw [hn8] at pC8 HN
    rw [Int.toNat_natCast] at HN
    generalize rollV s1 = s2 at *
    generalize drawV s1 2 = d2 at *
    clear hn8 r1 h0 h1 hbo
    have hb := hE.b
    have HE := Lib.hid hE
    clear hE
    go_wp2_with (refine wpList_load_blk (by rfl) 57 _ (by rfl) w.heap.size (by rfl) _ #[.int .i64 who, .int .u32 s, .int .i64 bold] _ hb Try.underlying57 (by rfl) ib57 ?_)
    refine (pC1.out _).mono ?_
    rintro e W2 ⟨rfl, b2⟩
    have E2 := HE.out.below b2
    have hb := E2.b
    have HE2 := Lib.hid E2
    clear b2 E2 HE pC1
    go_upto_region 4 with (first | (refine wpList_store_blk (by rfl) 57 _ _ (by rfl) w.heap.size #[.int .i64 who, .int .u32 s1, .int .i64 bold] (by rfl) (by rfl) _ _ hb ib57 rfl (by simp [Value.oneCell']) ?_; intro W6 hd6 ht6) | fail)
    have E3 := HE2.out.roll hd6 ht6
    have c2 := hd6.cell 2
    have c2 : W6.cell? ⟨w.heap.size, 2, none⟩ = some (.int .i64 bold) := c2
    have HE3 := Lib.hid E3
    clear hd6 ht6 E3 HE2 hb
    go_cut [39] (fun v wx => v = .bool (decide ((bold : Int) ≤ d ∧ d % 2 = 1)) ∧ wx = W6)
    case first =>
      by_cases t1 : (bold : Int) ≤ d
      · by_cases t2 : d % 2 = 1
        · have t2' : (d % 2 == 1) = true := by simpa using t2
          go_wp2_with fail
          go_meet
          exact ⟨by first | rfl | trivial | (simp [t1, t2]; done), by first | rfl | trivial⟩
        · have t2' : (d % 2 == 1) = false := by simpa using t2
          go_wp2_with fail
          go_meet
          exact ⟨by first | rfl | trivial | (simp [t1, t2]; done), by first | rfl | trivial⟩
      · go_wp2_with fail
        go_meet
        exact ⟨by first | rfl | trivial | (simp [t1]; done) | (simp; omega), by first | rfl | trivial⟩
    case rest =>
      obtain ⟨rfl, rfl⟩ := hcut
      clear c2
      by_cases hq : (bold : Int) ≤ d ∧ d % 2 = 1
      · have HN2 := HN.out
        have HS2 := HS.out
        rw [if_pos hq] at HN2 HS2
        have hq' : decide ((bold : Int) ≤ d ∧ d % 2 = 1) = true := by simpa using hq
        rw [hq']
        have HN3 := Lib.hid HN2
        have HS3 := Lib.hid HS2
        have HNS := Lib.hid (show (Value.tuple #[botV who (chooseS dg s bold) bold, .int .u16 (chooseN own oth dg s bold)]) = .tuple #[.agg #[.int .i64 who, .int .u32 s2, .int .i64 bold], .int .u16 (whimN n8)] by rw [HN2, HS2]; rfl)
        clear HN2 HS2 HN HS HR hq hq' HN3 HS3
        have n0 : (0 : Int) ≤ (n8 : Int) := by omega
        have n1 : (n8 : Int) < 8 := by omega
        have hb := HE3.out.b
        go_wp2_with (refine wpList_load_blk (by rfl) 57 _ (by rfl) w.heap.size (by rfl) _ #[.int .i64 who, .int .u32 s1, .int .i64 bold] _ hb Try.underlying57 (by rfl) ib57 ?_)
        refine (pC8.out _).mono ?_
        rintro e W3 ⟨rfl, b3⟩
        have E3 := HE3.out.below b3
        have HE4 := Lib.hid E3
        have E5 := E3.below ((Below.refl _ W3).alloc (Nat.le_refl _) (.cells #[.int .i64 who, .int .u32 s2, .int .i64 bold] 57))
        have X5 : BV (W3.alloc (.cells #[.int .i64 who, .int .u32 s2, .int .i64 bold] 57)) W3.heap.size who s2 bold := Blk.new _ _ _
        have hgr := Blk.lt E3.r
        clear hb b3 HE3 pC8 pC2 pW pN pT pD E3 c2
        go_upto_region 6 with fail
        generalize W3.alloc (.cells #[.int .i64 who, .int .u32 s2, .int .i64 bold] 57) = W5 at *
        generalize W3.heap.size = gx at *
        have hgx : ¬ gx = w.heap.size + 1 + 1 := by omega
        have hgx' : ¬ w.heap.size + 1 + 1 = gx := by omega
        have HLO := Lib.hid E5.lo
        have r0 : W5.cell? ⟨w.heap.size + 1 + 1, 0, none⟩ = some (.int .i64 0) := Blk.cell E5.r 0
        have r1 : W5.cell? ⟨w.heap.size + 1 + 1, 1, none⟩ = some (.int .u32 0) := Blk.cell E5.r 1
        have r2 : W5.cell? ⟨w.heap.size + 1 + 1, 2, none⟩ = some (.int .i64 0) := Blk.cell E5.r 2
        have g0 : W5.frozen? ⟨w.heap.size + 1 + 1, 0, none⟩ = false := Blk.frozen E5.r 0
        have g1 : W5.frozen? ⟨w.heap.size + 1 + 1, 1, none⟩ = false := Blk.frozen E5.r 1
        have g2 : W5.frozen? ⟨w.heap.size + 1 + 1, 2, none⟩ = false := Blk.frozen E5.r 2
        have x0 : W5.cell? ⟨gx, 0, none⟩ = some (.int .i64 who) := Blk.cell X5 0
        have x1 : W5.cell? ⟨gx, 1, none⟩ = some (.int .u32 s2) := Blk.cell X5 1
        have x2 : W5.cell? ⟨gx, 2, none⟩ = some (.int .i64 bold) := Blk.cell X5 2
        have ha := fun o => Blk.cell (Blk.alloc E5.r o) 0
        have r0' : ∀ o, (W5.alloc o).cell? ⟨w.heap.size + 1 + 1, 0, none⟩ = some (.int .i64 0) := fun o => Blk.cell (Blk.alloc E5.r o) 0
        have r1' : ∀ o, (W5.alloc o).cell? ⟨w.heap.size + 1 + 1, 1, none⟩ = some (.int .u32 0) := fun o => Blk.cell (Blk.alloc E5.r o) 1
        have r2' : ∀ o, (W5.alloc o).cell? ⟨w.heap.size + 1 + 1, 2, none⟩ = some (.int .i64 0) := fun o => Blk.cell (Blk.alloc E5.r o) 2
        have g0' : ∀ o, (W5.alloc o).frozen? ⟨w.heap.size + 1 + 1, 0, none⟩ = false := fun o => Blk.frozen (Blk.alloc E5.r o) 0
        have g1' : ∀ o, (W5.alloc o).frozen? ⟨w.heap.size + 1 + 1, 1, none⟩ = false := fun o => Blk.frozen (Blk.alloc E5.r o) 1
        have g2' : ∀ o, (W5.alloc o).frozen? ⟨w.heap.size + 1 + 1, 2, none⟩ = false := fun o => Blk.frozen (Blk.alloc E5.r o) 2
        have x0' : ∀ o, (W5.alloc o).cell? ⟨gx, 0, none⟩ = some (.int .i64 who) := fun o => Blk.cell (Blk.alloc X5 o) 0
        have x1' : ∀ o, (W5.alloc o).cell? ⟨gx, 1, none⟩ = some (.int .u32 s2) := fun o => Blk.cell (Blk.alloc X5 o) 1
        have x2' : ∀ o, (W5.alloc o).cell? ⟨gx, 2, none⟩ = some (.int .i64 bold) := fun o => Blk.cell (Blk.alloc X5 o) 2
        have hwc := whimC_at hn8l
        unfold whimC at hwc
        have HGL := Lib.hid (show ∀ h, ([.int .u16 0, .int .u16 1, .int .u16 2, .int .u16 4, .int .u16 16, .int .u16 32, .int .u16 6, .int .u16 5] : List Value)[n8]'h = .int .u16 (whimN n8) from fun h => Option.some.inj ((List.getElem?_eq_getElem h).symm.trans (by rwa [List.getElem?_toArray] at hwc)))
        have hwc2 : ∀ W : World, (W.alloc (.cells #[.int .u16 0, .int .u16 1, .int .u16 2, .int .u16 4, .int .u16 16, .int .u16 32, .int .u16 6, .int .u16 5] 47)).cell? ⟨W.heap.size, n8, none⟩ = some (.int .u16 (whimN n8)) := fun W => (Blk.cell (Blk.new W 47 whimC) n8).trans hwc
        have hne : W5.heap.size ≠ w.heap.size + 1 + 1 := by have := Blk.lt E5.r; omega
        have hwc3 : ((((W5.alloc (.cells #[.int .u16 0, .int .u16 1, .int .u16 2, .int .u16 4, .int .u16 16, .int .u16 32, .int .u16 6, .int .u16 5] 47)).setCell ⟨w.heap.size + 1 + 1, 0, none⟩ (.int .i64 who)).setCell ⟨w.heap.size + 1 + 1, 1, none⟩ (.int .u32 s2)).setCell ⟨w.heap.size + 1 + 1, 2, none⟩ (.int .i64 bold)).cell? ⟨W5.heap.size, n8, none⟩ = some (.int .u16 (whimN n8)) := (Blk.cell (Blk.far (Blk.far (Blk.far (Blk.new W5 47 whimC) hne _) hne _) hne _) n8).trans hwc
        have hwc4 : ((((W5.setCell ⟨w.heap.size + 1 + 1, 0, none⟩ (.int .i64 who)).setCell ⟨w.heap.size + 1 + 1, 1, none⟩ (.int .u32 s2)).setCell ⟨w.heap.size + 1 + 1, 2, none⟩ (.int .i64 bold)).alloc (.cells #[.int .u16 0, .int .u16 1, .int .u16 2, .int .u16 4, .int .u16 16, .int .u16 32, .int .u16 6, .int .u16 5] 47)).cell? ⟨W5.heap.size, n8, none⟩ = some (.int .u16 (whimN n8)) := by
          have := (Blk.cell (Blk.new (((W5.setCell ⟨w.heap.size + 1 + 1, 0, none⟩ (.int .i64 who)).setCell ⟨w.heap.size + 1 + 1, 1, none⟩ (.int .u32 s2)).setCell ⟨w.heap.size + 1 + 1, 2, none⟩ (.int .i64 bold)) 47 whimC) n8).trans hwc
          unfold whimC at this
          simpa using this
        have F1 : BV ((((W5.setCell ⟨w.heap.size + 1 + 1, 0, none⟩ (.int .i64 who)).setCell ⟨w.heap.size + 1 + 1, 1, none⟩ (.int .u32 s2)).setCell ⟨w.heap.size + 1 + 1, 2, none⟩ (.int .i64 bold)).alloc (.cells #[.int .u16 0, .int .u16 1, .int .u16 2, .int .u16 4, .int .u16 16, .int .u16 32, .int .u16 6, .int .u16 5] 47)) (w.heap.size + 1 + 1) who s2 bold := Blk.alloc (Blk.set_ (Blk.set_ (Blk.set_ E5.r 0 _) 1 _) 2 _) _
        have F2 : BV ((((W5.alloc (.cells #[.int .u16 0, .int .u16 1, .int .u16 2, .int .u16 4, .int .u16 16, .int .u16 32, .int .u16 6, .int .u16 5] 47)).setCell ⟨w.heap.size + 1 + 1, 0, none⟩ (.int .i64 who)).setCell ⟨w.heap.size + 1 + 1, 1, none⟩ (.int .u32 s2)).setCell ⟨w.heap.size + 1 + 1, 2, none⟩ (.int .i64 bold)) (w.heap.size + 1 + 1) who s2 bold := Blk.set_ (Blk.set_ (Blk.set_ (Blk.alloc E5.r _) 0 _) 1 _) 2 _
        have L1 := Lib.hid ((((HLO.out.setCell (p := ⟨w.heap.size + 1 + 1, 0, none⟩) (by simp; omega) (.int .i64 who)).setCell (p := ⟨w.heap.size + 1 + 1, 1, none⟩) (by simp; omega) (.int .u32 s2)).setCell (p := ⟨w.heap.size + 1 + 1, 2, none⟩) (by simp; omega) (.int .i64 bold)).alloc (by simpa using HLO.out.size) (.cells #[.int .u16 0, .int .u16 1, .int .u16 2, .int .u16 4, .int .u16 16, .int .u16 32, .int .u16 6, .int .u16 5] 47)).drew
        have L2 := Lib.hid ((((HLO.out.alloc HLO.out.size (.cells #[.int .u16 0, .int .u16 1, .int .u16 2, .int .u16 4, .int .u16 16, .int .u16 32, .int .u16 6, .int .u16 5] 47)).setCell (p := ⟨w.heap.size + 1 + 1, 0, none⟩) (by simp; omega) (.int .i64 who)).setCell (p := ⟨w.heap.size + 1 + 1, 1, none⟩) (by simp; omega) (.int .u32 s2)).setCell (p := ⟨w.heap.size + 1 + 1, 2, none⟩) (by simp; omega) (.int .i64 bold)).drew
        have HF1 := Lib.hid F1
        have HF2 := Lib.hid F2
        clear ha E5 X5 hgr hwc2 hwc hne F1 F2
        go_region
        all_goals clear r0 r1 r2 g0 g1 g2 x0 x1 x2 r0' r1' r2' g0' g1' g2' x0' x1' x2' hwc3 hwc4
        all_goals go_wp2_with fail
        all_goals
          refine bodyPost_ret (v := .tuple #[.agg #[.int .i64 who, .int .u32 s2, .int .i64 bold], .int .u16 (whimN n8)]) (rch_results _ _ (w.heap.size + 1 + 1) _ _ _ _ (by first | exact Blk.drew HF1.out | exact Blk.drew HF2.out) (by rfl) (by first | rfl | exact HGL.out _)) rfl ⟨congrArg Ending.returned HNS.out.symm, ?_⟩
          first
            | exact L1.out
            | exact L2.out
      · have HN2 := HN.out
        have HS2 := HS.out
        rw [if_neg hq] at HN2 HS2
        have hq' : decide ((bold : Int) ≤ d ∧ d % 2 = 1) = false := by simpa using hq
        rw [hq']
        have HR1 := Lib.hid (HN2.trans HR.out)
        have HS3 := Lib.hid HS2
        clear HN2 HS2 HN HS HR hq hq' pC8 hn8l
        have hsz := LC.size
        have hic := LC.info
        have E2 := HE3.out
        obtain ⟨Vo, hVo⟩ : ∃ V, V = (bodL own).toArray := ⟨_, rfl⟩
        obtain ⟨Vt, hVt⟩ : ∃ V, V = (bodL oth).toArray := ⟨_, rfl⟩
        have BO := Lib.hid (show ∀ W, MB W go own → Blk W go 26 Vo from fun W h => by rw [hVo]; exact h)
        have BT := Lib.hid (show ∀ W, MB W gt oth → Blk W gt 26 Vt from fun W h => by rw [hVt]; exact h)
        rw [show bodV own = .agg Vo by rw [hVo]; rfl, show bodV oth = .agg Vt by rw [hVt]; rfl] at pW
        have io : (Try.prog.info? 26).map (·.size) = some Vo.size := by rw [hVo]; exact infoB
        have it : (Try.prog.info? 26).map (·.size) = some Vt.size := by rw [hVt]; exact infoB
        have ho := BO.out _ E2.mo
        have ht := BT.out _ E2.mt
        have hlt3 := wayV_lt own oth
        obtain ⟨wv, hwv⟩ : ∃ wv, wayV own oth = wv := ⟨_, rfl⟩
        rw [hwv] at pW hlt3 HR1
        have HE4 := Lib.hid E2
        clear hVo hVt hwv E2 HE3
        go_wp2_with (first | (refine wpList_load_blk (by rfl) 26 _ (by rfl) go (by rfl) _ Vo _ ho Try.underlying26 (by rfl) io ?_) | (refine wpList_load_blk (by rfl) 26 _ (by rfl) gt (by rfl) _ Vt _ ht Try.underlying26 (by rfl) it ?_) | fail)
        refine (pW.out _).mono ?_
        rintro e W3 ⟨rfl, b3⟩
        have E3 := HE4.out.below b3
        have hst := E3.st
        have HE3 := Lib.hid E3
        clear ho ht b3 E3 HE4 pW
        go_wp2_with (first | (refine wpList_load_blk (by rfl) 33 _ (by rfl) (w.heap.size + 1) (by rfl) _ C _ hst Try.underlying33 (by rfl) hic ?_) | fail)
        refine (pD.out _).mono ?_
        rintro e W4 ⟨rfl, b4⟩
        have E4 := HE3.out.below b4
        clear hst b4 HE3 pD io it BO BT hsz hic
        cases dg
        · have HR2 := HR1.out
          have HS4 := HS3.out
          rw [if_neg (by simp)] at HR2 HS4
          have HR3 := Lib.hid HR2
          clear HR1 HR2 HS3 pC2
          have m0 := E4.mo.c0
          have m6 := E4.mo.c6
          have t0 := E4.mt.c0
          have HE5 := Lib.hid E4
          have HS5 := Lib.hid HS4
          clear E4 HS4
          go_upto_region 13 with fail
          go_cut [89] (fun v wx => v = .bool (!facesV own oth) ∧ wx = W4)
          case first =>
            have HF := Lib.hid (show facesV own oth = ((decide (own.x < oth.x) && decide (0 < own.facing)) || (decide (oth.x < own.x) && decide (own.facing < 0))) from rfl)
            by_cases c1 : own.x < oth.x
            · have c3 : ¬ oth.x < own.x := by omega
              by_cases c2 : 0 < own.facing
              · go_wp2_with fail
                go_meet
                exact ⟨by rw [HF.out]; first | (simp [c1, c2, c3]; done) | (simp [c1, c2, c3]; omega), by first | rfl | trivial⟩
              · go_wp2_with fail
                go_meet
                exact ⟨by rw [HF.out]; first | (simp [c1, c2, c3]; done) | (simp [c1, c2, c3]; omega), by first | rfl | trivial⟩
            · by_cases c3 : oth.x < own.x
              · by_cases c2 : own.facing < 0
                · go_wp2_with fail
                  go_meet
                  exact ⟨by rw [HF.out]; first | (simp [c1, c2, c3]; done) | (simp [c1, c2, c3]; omega), by first | rfl | trivial⟩
                · go_wp2_with fail
                  go_meet
                  exact ⟨by rw [HF.out]; first | (simp [c1, c2, c3]; done) | (simp [c1, c2, c3]; omega), by first | rfl | trivial⟩
              · go_wp2_with fail
                go_meet
                exact ⟨by rw [HF.out]; first | (simp [c1, c3]; done) | (simp [c1, c3]; omega), by first | rfl | trivial⟩
          case rest =>
            obtain ⟨rfl, rfl⟩ := hcut
            clear m0 m6 t0
            have HR2 := HR3.out
            have HS4 := HS5.out
            generalize facesV own oth = fc at *
            cases fc
            · have HR4 := HR2
              rw [if_neg (by simp)] at HR4
              have HNS := Lib.hid (show (Value.tuple #[botV who (chooseS false s bold) bold, .int .u16 (chooseN own oth false s bold)]) = .tuple #[.agg #[.int .i64 who, .int .u32 s1, .int .i64 bold], .int .u16 (towV own.x oth.x)] by rw [HR4, HS4]; try rfl)
              have HSX := Lib.hid (show ∀ W, BV W w.heap.size who s1 bold → MB W go own → MB W gt oth → (W.cell? ⟨w.heap.size, 0, none⟩ = some (.int .i64 who) ∧ W.cell? ⟨w.heap.size, 1, none⟩ = some (.int .u32 s1) ∧ W.cell? ⟨w.heap.size, 2, none⟩ = some (.int .i64 bold) ∧ W.cell? ⟨go, 0, none⟩ = some (.int .i64 own.x) ∧ W.cell? ⟨go, 1, none⟩ = some (.int .i64 own.y) ∧ W.cell? ⟨go, 2, none⟩ = some (.int .i64 own.vx) ∧ W.cell? ⟨go, 3, none⟩ = some (.int .i64 own.vy) ∧ W.cell? ⟨go, 4, none⟩ = some (.int .i64 own.life) ∧ W.cell? ⟨go, 5, none⟩ = some (.int .i64 own.cool) ∧ W.cell? ⟨go, 6, none⟩ = some (.int .i64 own.facing) ∧ W.cell? ⟨gt, 0, none⟩ = some (.int .i64 oth.x) ∧ W.cell? ⟨gt, 1, none⟩ = some (.int .i64 oth.y) ∧ W.cell? ⟨gt, 2, none⟩ = some (.int .i64 oth.vx) ∧ W.cell? ⟨gt, 3, none⟩ = some (.int .i64 oth.vy) ∧ W.cell? ⟨gt, 4, none⟩ = some (.int .i64 oth.life) ∧ W.cell? ⟨gt, 5, none⟩ = some (.int .i64 oth.cool) ∧ W.cell? ⟨gt, 6, none⟩ = some (.int .i64 oth.facing)) from fun W h1 h2 h3 => ⟨Blk.cell h1 0, Blk.cell h1 1, Blk.cell h1 2, h2.c0, h2.c1, h2.c2, h2.c3, h2.c4, h2.c5, h2.c6, h3.c0, h3.c1, h3.c2, h3.c3, h3.c4, h3.c5, h3.c6⟩)
              unfold bodV bodL at pT
              have hS0 := HSX.out wc.drew HE5.out.b.drew HE5.out.mo.drew HE5.out.mt.drew
              clear HR2 HR3 HR4 HS4 HS5 pN
              have n1 : ¬ w.heap.size = w.heap.size + 1 + 1 := by omega
              have n2 : ¬ go = w.heap.size + 1 + 1 := by have := HE5.out.ho; omega
              have n3 : ¬ gt = w.heap.size + 1 + 1 := by have := HE5.out.ht; omega
              go_upto_region 14 with fail
              go_region_held3 (fun w' => w'.cell? ⟨w.heap.size, 0, none⟩ = some (.int .i64 who) ∧ w'.cell? ⟨w.heap.size, 1, none⟩ = some (.int .u32 s1) ∧ w'.cell? ⟨w.heap.size, 2, none⟩ = some (.int .i64 bold) ∧ w'.cell? ⟨go, 0, none⟩ = some (.int .i64 own.x) ∧ w'.cell? ⟨go, 1, none⟩ = some (.int .i64 own.y) ∧ w'.cell? ⟨go, 2, none⟩ = some (.int .i64 own.vx) ∧ w'.cell? ⟨go, 3, none⟩ = some (.int .i64 own.vy) ∧ w'.cell? ⟨go, 4, none⟩ = some (.int .i64 own.life) ∧ w'.cell? ⟨go, 5, none⟩ = some (.int .i64 own.cool) ∧ w'.cell? ⟨go, 6, none⟩ = some (.int .i64 own.facing) ∧ w'.cell? ⟨gt, 0, none⟩ = some (.int .i64 oth.x) ∧ w'.cell? ⟨gt, 1, none⟩ = some (.int .i64 oth.y) ∧ w'.cell? ⟨gt, 2, none⟩ = some (.int .i64 oth.vx) ∧ w'.cell? ⟨gt, 3, none⟩ = some (.int .i64 oth.vy) ∧ w'.cell? ⟨gt, 4, none⟩ = some (.int .i64 oth.life) ∧ w'.cell? ⟨gt, 5, none⟩ = some (.int .i64 oth.cool) ∧ w'.cell? ⟨gt, 6, none⟩ = some (.int .i64 oth.facing)) (first | exact hS0 | exact hS4 | exact hS5)
                (first
                  | (go_at_call 70; refine (pT.out _).mono ?_; rintro e W5 ⟨rfl, b5'⟩; have b5 : Below wc.heap.size wc W5 := ⟨b5'.os, b5'.tape, b5'.output, b5'.size, b5'.block⟩; have E5 := HE5.out.below b5; have hS4 := HSX.out W5 E5.b E5.mo E5.mt; have r0 : W5.cell? ⟨w.heap.size + 1 + 1, 0, none⟩ = some (.int .i64 0) := Blk.cell E5.r 0; have r1 : W5.cell? ⟨w.heap.size + 1 + 1, 1, none⟩ = some (.int .u32 0) := Blk.cell E5.r 1; have r2 : W5.cell? ⟨w.heap.size + 1 + 1, 2, none⟩ = some (.int .i64 0) := Blk.cell E5.r 2; have g0 := Blk.frozen E5.r 0; have g1 := Blk.frozen E5.r 1; have g2 := Blk.frozen E5.r 2; have hS5 := HSX.out (((W5.setCell ⟨w.heap.size + 1 + 1, 0, none⟩ (.int .i64 who)).setCell ⟨w.heap.size + 1 + 1, 1, none⟩ (.int .u32 s1)).setCell ⟨w.heap.size + 1 + 1, 2, none⟩ (.int .i64 bold)) (Blk.far (p := ⟨w.heap.size + 1 + 1, 2, none⟩) (Blk.far (p := ⟨w.heap.size + 1 + 1, 1, none⟩) (Blk.far (p := ⟨w.heap.size + 1 + 1, 0, none⟩) E5.b n1 (.int .i64 who)) n1 (.int .u32 s1)) n1 (.int .i64 bold)) (Blk.far (p := ⟨w.heap.size + 1 + 1, 2, none⟩) (Blk.far (p := ⟨w.heap.size + 1 + 1, 1, none⟩) (Blk.far (p := ⟨w.heap.size + 1 + 1, 0, none⟩) E5.mo n2 (.int .i64 who)) n2 (.int .u32 s1)) n2 (.int .i64 bold)) (Blk.far (p := ⟨w.heap.size + 1 + 1, 2, none⟩) (Blk.far (p := ⟨w.heap.size + 1 + 1, 1, none⟩) (Blk.far (p := ⟨w.heap.size + 1 + 1, 0, none⟩) E5.mt n3 (.int .i64 who)) n3 (.int .u32 s1)) n3 (.int .i64 bold)); have hR5 : BV (((W5.setCell ⟨w.heap.size + 1 + 1, 0, none⟩ (.int .i64 who)).setCell ⟨w.heap.size + 1 + 1, 1, none⟩ (.int .u32 s1)).setCell ⟨w.heap.size + 1 + 1, 2, none⟩ (.int .i64 bold)) (w.heap.size + 1 + 1) who s1 bold := Blk.set_ (Blk.set_ (Blk.set_ E5.r 0 _) 1 _) 2 _)
                  | fail "no arm")
              all_goals
                clear r0 r1 r2 g0 g1 g2 hS0 hS4 hS5
                go_wp2_with fail
                refine bodyPost_ret (v := .tuple #[.agg #[.int .i64 who, .int .u32 s1, .int .i64 bold], .int .u16 (towV own.x oth.x)]) (rch_results _ _ (w.heap.size + 1 + 1) _ _ _ _ (by exact hR5) (by rfl) (by rfl)) rfl ⟨congrArg Ending.returned HNS.out.symm, ?_⟩
                exact ((E5.lo.setCell (by simp; omega) _).setCell (by simp; omega) _).setCell (by simp; omega) _
            · have HR4' := HR2
              rw [if_pos rfl] at HR4'
              have HR5 := Lib.hid HR4'
              clear HR2 HR3 HR4' HS5 pT
              have HFN := Lib.hid (show nearV own.y oth.y 393216 = decide (farV own.y oth.y ≤ 393216) from rfl)
              generalize farV own.y oth.y = fv at *
              by_cases hc : own.cool = 0 ∧ fv ≤ 393216
              · have HR4 := HR5.out
                rw [HFN.out, if_pos ⟨hc.1, by simpa using hc.2⟩] at HR4
                have HNS := Lib.hid (show (Value.tuple #[botV who (chooseS false s bold) bold, .int .u16 (chooseN own oth false s bold)]) = .tuple #[.agg #[.int .i64 who, .int .u32 s1, .int .i64 bold], .int .u16 ((wv + 16 : Nat) : Int)] by rw [HR4, HS4]; try rfl)
                obtain ⟨hc1, hc2⟩ := hc
                have m5 := HE5.out.mo.c5
                rw [hc1] at m5
                have m1 := HE5.out.mo.c1
                have t1 := HE5.out.mt.c1
                clear HR4 HR5 HS4 HFN hc1
                go_wp2_with fail
                refine (pN.out _).mono ?_
                rintro e W5 ⟨rfl, b5⟩
                have E5 := HE5.out.below b5
                have hb := E5.b
                have hr := E5.r
                have hlo := Lib.hid E5.lo
                clear b5 E5 HE5 m1 m5 t1 pN
                go_wp2_with (first | (refine wpList_load_blk (by rfl) 57 _ (by rfl) w.heap.size (by rfl) _ #[.int .i64 who, .int .u32 s1, .int .i64 bold] _ hb Try.underlying57 (by rfl) ib57 ?_) | (refine wpList_store_blk (by rfl) 57 _ _ (by rfl) (w.heap.size + 1 + 1) #[.int .i64 who, .int .u32 s1, .int .i64 bold] (by rfl) (by rfl) _ _ hr ib57 rfl (by simp [Value.oneCell']) ?_; intro W6 hd6 ht6) | fail)
                refine bodyPost_ret (v := .tuple #[.agg #[.int .i64 who, .int .u32 s1, .int .i64 bold], .int .u16 ((wv + 16 : Nat) : Int)]) (rch_results _ _ (w.heap.size + 1 + 1) _ _ _ _ hd6 (by rfl) (by rfl)) rfl ⟨congrArg Ending.returned HNS.out.symm, ?_⟩
                exact hlo.out.trans (ht6.below hlo.out.size (fun k hk => by omega))
              · have HR4 := HR5.out
                rw [HFN.out, if_neg (fun h => hc ⟨h.1, by simpa using h.2⟩)] at HR4
                have HNS := Lib.hid (show (Value.tuple #[botV who (chooseS false s bold) bold, .int .u16 (chooseN own oth false s bold)]) = .tuple #[.agg #[.int .i64 who, .int .u32 s1, .int .i64 bold], .int .u16 wv] by rw [HR4, HS4]; try rfl)
                have m5 := HE5.out.mo.c5
                by_cases hc1 : own.cool = 0
                · have hc2 : ¬ fv ≤ 393216 := fun h => hc ⟨hc1, h⟩
                  rw [hc1] at m5
                  have m1 := HE5.out.mo.c1
                  have t1 := HE5.out.mt.c1
                  clear HR4 HR5 HS4 HFN hc1 hc
                  go_wp2_with fail
                  refine (pN.out _).mono ?_
                  rintro e W5 ⟨rfl, b5⟩
                  have E5 := HE5.out.below b5
                  have hb := E5.b
                  have hr := E5.r
                  have hlo := Lib.hid E5.lo
                  clear b5 E5 HE5 m1 m5 t1 pN
                  go_wp2_with (first | (refine wpList_load_blk (by rfl) 57 _ (by rfl) w.heap.size (by rfl) _ #[.int .i64 who, .int .u32 s1, .int .i64 bold] _ hb Try.underlying57 (by rfl) ib57 ?_) | (refine wpList_store_blk (by rfl) 57 _ _ (by rfl) (w.heap.size + 1 + 1) #[.int .i64 who, .int .u32 s1, .int .i64 bold] (by rfl) (by rfl) _ _ hr ib57 rfl (by simp [Value.oneCell']) ?_; intro W6 hd6 ht6) | fail)
                  refine bodyPost_ret (v := .tuple #[.agg #[.int .i64 who, .int .u32 s1, .int .i64 bold], .int .u16 wv]) (rch_results _ _ (w.heap.size + 1 + 1) _ _ _ _ hd6 (by rfl) (by rfl)) rfl ⟨congrArg Ending.returned HNS.out.symm, ?_⟩
                  exact hlo.out.trans (ht6.below hlo.out.size (fun k hk => by omega))
                · have hc' : (own.cool == 0) = false := by simpa using hc1
                  clear HR4 HR5 HS4 HFN hc1 hc
                  have E5 := HE5.out
                  have hb := E5.b
                  have hr := E5.r
                  have hlo := Lib.hid E5.lo
                  clear E5 HE5 pN
                  go_wp2_with (first | (refine wpList_load_blk (by rfl) 57 _ (by rfl) w.heap.size (by rfl) _ #[.int .i64 who, .int .u32 s1, .int .i64 bold] _ hb Try.underlying57 (by rfl) ib57 ?_) | (refine wpList_store_blk (by rfl) 57 _ _ (by rfl) (w.heap.size + 1 + 1) #[.int .i64 who, .int .u32 s1, .int .i64 bold] (by rfl) (by rfl) _ _ hr ib57 rfl (by simp [Value.oneCell']) ?_; intro W6 hd6 ht6) | fail)
                  refine bodyPost_ret (v := .tuple #[.agg #[.int .i64 who, .int .u32 s1, .int .i64 bold], .int .u16 wv]) (rch_results _ _ (w.heap.size + 1 + 1) _ _ _ _ hd6 (by rfl) (by rfl)) rfl ⟨congrArg Ending.returned HNS.out.symm, ?_⟩
                  exact hlo.out.trans (ht6.below hlo.out.size (fun k hk => by omega))
        · have HR2 := HR1.out
          have HS4 := HS3.out
          rw [if_pos rfl] at HR2 HS4
          have HR3 := Lib.hid HR2
          clear HR1 HR2 HS3 pN pT
          have hb := E4.b
          have HE5 := Lib.hid E4
          have HS5 := Lib.hid HS4
          clear E4 HS4
          go_wp2_with (first | (refine wpList_load_blk (by rfl) 57 _ (by rfl) w.heap.size (by rfl) _ #[.int .i64 who, .int .u32 s1, .int .i64 bold] _ hb Try.underlying57 (by rfl) ib57 ?_) | fail)
          refine (pC2.out _).mono ?_
          rintro e W5 ⟨rfl, b5⟩
          have E5 := HE5.out.below b5
          have E6 := E5.below ((Below.refl _ W5).alloc (Nat.le_refl _) (.cells #[.int .i64 who, .int .u32 s2, .int .i64 bold] 57))
          have hx : BV (W5.alloc (.cells #[.int .i64 who, .int .u32 s2, .int .i64 bold] 57)) W5.heap.size who s2 bold := Blk.new _ _ _
          have HS4 := HS5.out
          by_cases hd : d2 = 0
          · have HR4 := HR3.out
            rw [if_pos hd] at HR4
            have hd' : (d2 == 0) = true := by simpa using hd
            have HNS := Lib.hid (show (Value.tuple #[botV who (chooseS true s bold) bold, .int .u16 (chooseN own oth true s bold)]) = .tuple #[.agg #[.int .i64 who, .int .u32 s2, .int .i64 bold], .int .u16 ((wv + 4 : Nat) : Int)] by rw [HR4, HS4]; try rfl)
            clear HR3 HR4 HS4 HS5 hd hb pC2 b5 E5 HE5
            go_upto_region 11 with fail
            generalize W5.alloc (.cells #[.int .i64 who, .int .u32 s2, .int .i64 bold] 57) = W7 at *
            generalize W5.heap.size = gx at *
            have hb := hx
            have hr := E6.r
            have hlo := Lib.hid E6.lo
            clear E6 hx
            go_wp2_with (first | (refine wpList_load_blk (by rfl) 57 _ (by rfl) gx (by rfl) _ #[.int .i64 who, .int .u32 s2, .int .i64 bold] _ hb Try.underlying57 (by rfl) ib57 ?_) | (refine wpList_store_blk (by rfl) 57 _ _ (by rfl) (w.heap.size + 1 + 1) #[.int .i64 who, .int .u32 s2, .int .i64 bold] (by rfl) (by rfl) _ _ hr ib57 rfl (by simp [Value.oneCell']) ?_; intro W6 hd6 ht6) | fail)
            refine bodyPost_ret (v := .tuple #[.agg #[.int .i64 who, .int .u32 s2, .int .i64 bold], .int .u16 ((wv + 4 : Nat) : Int)]) (rch_results _ _ (w.heap.size + 1 + 1) _ _ _ _ hd6 (by rfl) (by rfl)) rfl ⟨congrArg Ending.returned HNS.out.symm, ?_⟩
            exact hlo.out.trans (ht6.below hlo.out.size (fun k hk => by omega))
          · have HR4 := HR3.out
            rw [if_neg hd] at HR4
            have hd' : (d2 == 0) = false := by simpa using hd
            have HNS := Lib.hid (show (Value.tuple #[botV who (chooseS true s bold) bold, .int .u16 (chooseN own oth true s bold)]) = .tuple #[.agg #[.int .i64 who, .int .u32 s2, .int .i64 bold], .int .u16 32] by rw [HR4, HS4]; try rfl)
            clear HR3 HR4 HS4 HS5 hd hb pC2 b5 E5 HE5
            go_upto_region 12 with fail
            generalize W5.alloc (.cells #[.int .i64 who, .int .u32 s2, .int .i64 bold] 57) = W7 at *
            generalize W5.heap.size = gx at *
            have hb := hx
            have hr := E6.r
            have hlo := Lib.hid E6.lo
            clear E6 hx
            go_wp2_with (first | (refine wpList_load_blk (by rfl) 57 _ (by rfl) gx (by rfl) _ #[.int .i64 who, .int .u32 s2, .int .i64 bold] _ hb Try.underlying57 (by rfl) ib57 ?_) | (refine wpList_store_blk (by rfl) 57 _ _ (by rfl) (w.heap.size + 1 + 1) #[.int .i64 who, .int .u32 s2, .int .i64 bold] (by rfl) (by rfl) _ _ hr ib57 rfl (by simp [Value.oneCell']) ?_; intro W6 hd6 ht6) | fail)
            refine bodyPost_ret (v := .tuple #[.agg #[.int .i64 who, .int .u32 s2, .int .i64 bold], .int .u16 32]) (rch_results _ _ (w.heap.size + 1 + 1) _ _ _ _ hd6 (by rfl) (by rfl)) rfl ⟨congrArg Ending.returned HNS.out.symm, ?_⟩
            exact hlo.out.trans (ht6.below hlo.out.size (fun k hk => by omega))
end Go.Proofs.Ytblnfkhaicjeaaa.Bot
