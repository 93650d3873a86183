/-
  What a player presses: the program's Choose.
-/
import Derived.Test.YtblnfkhaicjeaaaBotC
import Derived.BigRegion
namespace Go.Proofs.Ytblnfkhaicjeaaa.Bot
open Go.RowKit Go.Proofs.Ytblnfkhaicjeaaa.Num Go.Proofs.Ytblnfkhaicjeaaa.Gm Go.Proofs.Ytblnfkhaicjeaaa.Byt
set_option linter.all false
attribute [local go_sem ↓] exec33
attribute [local go_sem] loadR_at cellsAt_drew

def whimN (n : Nat) : Nat := [0, 1, 2, 4, 16, 32, 6, 5].getD n 0
def restN (own oth : Body) (dg : Bool) (s : Int) : Nat :=
  if dg = true then (if drawV (rollV s) 2 = 0 then wayV own oth + 4 else 32)
  else if facesV own oth = true then (if own.cool = 0 ∧ nearV own.y oth.y 393216 = true then wayV own oth + 16 else wayV own oth) else towV own.x oth.x
def chooseN (own oth : Body) (dg : Bool) (s : Int) (bold : Nat) : Nat :=
  if (bold : Int) ≤ drawV s 16 ∧ drawV s 16 % 2 = 1 then whimN (drawV (rollV s) 8).toNat else restN own oth dg s
def chooseS (dg : Bool) (s : Int) (bold : Nat) : Int :=
  if (bold : Int) ≤ drawV s 16 ∧ drawV s 16 % 2 = 1 then rollV (rollV s) else if dg = true then rollV (rollV s) else rollV s
theorem wayV_lt (o p : Body) : wayV o p < 3 := by
  unfold wayV awayV towV
  (repeat' split) <;> decide
theorem chooseS_in (dg : Bool) (s : Int) (bold : Nat) : 0 ≤ chooseS dg s bold ∧ chooseS dg s bold < 4294967296 := by
  unfold chooseS
  (repeat' split) <;> exact rollV_in _
def whimC : Array Value := #[.int .u16 0, .int .u16 1, .int .u16 2, .int .u16 4, .int .u16 16, .int .u16 32, .int .u16 6, .int .u16 5]
theorem whimC_at {n : Nat} (h : n < 8) : whimC[n]? = some (.int .u16 (whimN n)) := by
  match n, h with
  | 0, _ => rfl
  | 1, _ => rfl
  | 2, _ => rfl
  | 3, _ => rfl
  | 4, _ => rfl
  | 5, _ => rfl
  | 6, _ => rfl
  | 7, _ => rfl
set_option maxHeartbeats 1000000 in
theorem whims_any (w : World) :
    Calls Try.prog 66 #[] w fun e w' => e = .returned (.slice (some ⟨w.heap.size, 0, none⟩) 8 8) ∧ w' = w.alloc (.cells whimC 47) := by
  unfold whimC
  go_enter Try.func66, Try.ntmps66
  go_wp2
  go_ret
  exact ⟨rfl, rfl⟩

/-- What lies there while a player chooses: the player, the state, both bodies. -/
structure ChX (w W : World) (g gs go gt : Nat) (who : Nat) (s : Int) (bold : Nat) (C : Array Value) (own oth : Body) : Prop where
  pb : PB W g who s bold
  st : Blk W gs 33 C
  mo : MB W go own
  mt : MB W gt oth
  tc : Touch (fun k => k = g) w W
  hg : g < w.heap.size
  hs : w.heap.size ≤ gs
  ho : w.heap.size ≤ go
  ht : w.heap.size ≤ gt
section
variable {w W W' : World} {g gs go gt who bold : Nat} {s : Int} {C : Array Value} {own oth : Body}
theorem ChX.below (h : ChX w W g gs go gt who s bold C own oth) (hb : RowKit.Below W.heap.size W W') : ChX w W' g gs go gt who s bold C own oth :=
  ⟨PB.below h.pb hb, Blk.below h.st hb (Blk.lt h.st), MB.below h.mo hb (Blk.lt h.mo), MB.below h.mt hb (Blk.lt h.mt), h.tc.trans (Touch.of_below hb (S := fun k => k = g)) (fun k hk => .inl hk), h.hg, h.hs, h.ho, h.ht⟩
theorem ChX.roll (h : ChX w W g gs go gt who s bold C own oth) (t : Int) : ChX w (W.setCell ⟨g, 1, none⟩ (.int .u32 t)) g gs go gt who t bold C own oth := by
  have h1 := h.hg
  have h2 := h.hs
  have h3 := h.ho
  have h4 := h.ht
  exact ⟨PB.set h.pb t, Blk.far h.st (by simp; omega) _, Blk.far h.mo (by simp; omega) _, Blk.far h.mt (by simp; omega) _, h.tc.setCell (.inl rfl) _, h1, h2, h3, h4⟩
end
theorem orB {n : Nat} (hn : n < 3) : bits .or .u16 (n : Int) 4 = ((n + 4 : Nat) : Int) ∧ bits .or .u16 (n : Int) 16 = ((n + 16 : Nat) : Int) ∧ bits .or .u16 (bits .andNot .u16 (n : Int) 3) 32 = 32 := by
  match n, hn with
  | 0, _ => decide +kernel
  | 1, _ => decide +kernel
  | 2, _ => decide +kernel

set_option maxRecDepth 100000 in
set_option maxHeartbeats 8000000 in
theorem choose_any (w : World) (g who bold : Nat) (s : Int) (C : Array Value) (f : F) (LC : Let C f) (hw : Wf f) (hP : PB w g who s bold) (hwho : who < 2) (hbo : bold ≤ 16) (h0 : 0 ≤ s) (h1 : s < 4294967296) :
    Calls Try.prog 31 #[.pointer (some ⟨g, 0, none⟩), .agg C] w fun e w' =>
      e = .returned (.int .u16 (chooseN (bod f (2 + who * 7)) (bod f (2 + (1 - who) * 7)) (dangerV f who) s bold)) ∧ PB w' g who (chooseS (dangerV f who) s bold) bold ∧ Touch (fun k => k = g) w w' := by
  obtain ⟨W1, hW1⟩ : ∃ W1, W1 = w.alloc (.cells C 33) := ⟨_, rfl⟩
  have hS : SB W1 w.heap.size 33 f := by rw [hW1]; exact LC.sb (Blk.new _ _ _)
  have hB : Below w.heap.size w W1 := by rw [hW1]; exact (Below.refl _ w).alloc (Nat.le_refl _) _
  have hz : w.heap.size + 1 = W1.heap.size := by rw [hW1]; simp
  have hP1 := PB.below hP hB
  have hgw : g < w.heap.size := Blk.lt hP
  obtain ⟨ot, hot⟩ : ∃ ot, ot = 1 - who := ⟨_, rfl⟩
  rw [← hot]
  have hot2 : ot < 2 := by omega
  have hbit : bits .and .i64 (who : Int) 1 = who := by
    have : who = 0 ∨ who = 1 := by omega
    rcases this with rfl | rfl <;> decide +kernel
  have hsub : (1 : Int) - (who : Int) = (ot : Int) := by omega
  have fo := body_fit hw (2 + who * 7) (by omega)
  have ft := body_fit hw (2 + ot * 7) (by omega)
  have ro := hS.bodR hwho
  have rt := hS.bodR hot2
  have pD := Lib.hid (fun W => danger_any W C f who LC hw hwho)
  generalize dangerV f who = dg at *
  generalize bod f (2 + who * 7) = own at *
  generalize bod f (2 + ot * 7) = oth at *
  have pW := Lib.hid (fun W => way_any W own oth fo ft)
  have pF := Lib.hid (fun W => faces_any W own oth)
  have pN := Lib.hid (fun W => near_any W own.y oth.y 393216 fo.y0 fo.y1 ft.y0 ft.y1 (by omega))
  have pT := Lib.hid (fun W => toward_any W own.x oth.x)
  have hst := LC.blk hS
  have c0 := hP1.c0
  have w1 : (0 : Int) ≤ (who : Int) := by omega
  have w2 : (who : Int) < 2 := by omega
  have w3 : (0 : Int) ≤ (ot : Int) := by omega
  have w4 : (ot : Int) < 2 := by omega
  have hgw1 : g < W1.heap.size := by omega
  have HCH := Lib.hid (show ∀ W go gt, Below W1.heap.size W1 W → MB W go own → MB W gt oth → W1.heap.size ≤ go → W1.heap.size ≤ gt → ChX w W g w.heap.size go gt who s bold C own oth from fun W go gt hb h1 h2 h3 h4 =>
    ⟨PB.below hP1 hb, Blk.below hst hb (Blk.lt hst), h1, h2, Touch.of_below (hB.trans (hb.mono hB.size)), hgw, Nat.le_refl _, by omega, by omega⟩)
  have a0 : W1.cell? ⟨w.heap.size, 2 + who * 7, none⟩ = some (.int .i64 own.x) := ro 0 _ rfl
  have b0 : W1.cell? ⟨w.heap.size, 2 + ot * 7, none⟩ = some (.int .i64 oth.x) := rt 0 _ rfl
  have a1 : W1.cell? ⟨w.heap.size, 2 + who * 7 + 1, none⟩ = some (.int .i64 own.y) := ro 1 _ rfl
  have b1 : W1.cell? ⟨w.heap.size, 2 + ot * 7 + 1, none⟩ = some (.int .i64 oth.y) := rt 1 _ rfl
  have a2 : W1.cell? ⟨w.heap.size, 2 + who * 7 + 2, none⟩ = some (.int .i64 own.vx) := ro 2 _ rfl
  have b2 : W1.cell? ⟨w.heap.size, 2 + ot * 7 + 2, none⟩ = some (.int .i64 oth.vx) := rt 2 _ rfl
  have a3 : W1.cell? ⟨w.heap.size, 2 + who * 7 + 3, none⟩ = some (.int .i64 own.vy) := ro 3 _ rfl
  have b3 : W1.cell? ⟨w.heap.size, 2 + ot * 7 + 3, none⟩ = some (.int .i64 oth.vy) := rt 3 _ rfl
  have a4 : W1.cell? ⟨w.heap.size, 2 + who * 7 + 4, none⟩ = some (.int .i64 own.life) := ro 4 _ rfl
  have b4 : W1.cell? ⟨w.heap.size, 2 + ot * 7 + 4, none⟩ = some (.int .i64 oth.life) := rt 4 _ rfl
  have a5 : W1.cell? ⟨w.heap.size, 2 + who * 7 + 5, none⟩ = some (.int .i64 own.cool) := ro 5 _ rfl
  have b5 : W1.cell? ⟨w.heap.size, 2 + ot * 7 + 5, none⟩ = some (.int .i64 oth.cool) := rt 5 _ rfl
  have a6 : W1.cell? ⟨w.heap.size, 2 + who * 7 + 6, none⟩ = some (.int .i64 own.facing) := ro 6 _ rfl
  have b6 : W1.cell? ⟨w.heap.size, 2 + ot * 7 + 6, none⟩ = some (.int .i64 oth.facing) := rt 6 _ rfl
  clear ro rt
  have hwr : IntKind.i64.wrap (ot : Int) = ot := IntWalk.i64_in _ (by omega)
  have q1 := World.new_ne W1 _ a0
  have q2 := World.new_ne W1 _ c0
  have q3 : ¬ w.heap.size = W1.heap.size + 1 := by omega
  have q4 : ¬ g = W1.heap.size + 1 := by omega
  have HZ := Lib.hid hz
  clear hz
  have E1 := Lib.hid (HCH.out (((W1.alloc (.cells (bodL own).toArray 26)).alloc (.cells (bodL oth).toArray 26)).drew) W1.heap.size (W1.heap.size + 1) ((((Below.refl _ W1).alloc (Nat.le_refl _) _).alloc (by simp) _).drew) ((Blk.new W1 26 (bodL own).toArray).alloc _) (by have := Blk.new (W1.alloc (.cells (bodL own).toArray 26)) 26 (bodL oth).toArray; exact Blk.drew (by simpa using this)) (Nat.le_refl _) (by omega))
  have E2 := Lib.hid (HCH.out (((W1.alloc (.cells (bodL oth).toArray 26)).alloc (.cells (bodL own).toArray 26)).drew) (W1.heap.size + 1) W1.heap.size ((((Below.refl _ W1).alloc (Nat.le_refl _) _).alloc (by simp) _).drew) (by have := Blk.new (W1.alloc (.cells (bodL oth).toArray 26)) 26 (bodL own).toArray; exact Blk.drew (by simpa using this)) ((Blk.new W1 26 (bodL oth).toArray).alloc _) (by omega) (Nat.le_refl _))
  clear hS hP hP1 hst hB hot hw hwho hot2 hgw fo ft
  go_enter Try.func31, Try.ntmps31
  go_upto_region 1 with fail
  rw [← hW1]
  clear hW1
  go_cut [5, 6] (fun v5 v6 wx => ∃ go gt, v5 = .pointer (some ⟨go, 0, none⟩) ∧ v6 = .pointer (some ⟨gt, 0, none⟩) ∧ ChX w wx g w.heap.size go gt who s bold C own oth)
  case first =>
    clear pD pW pF pN pT
    go_region_held3 (fun w' => w'.cell? ⟨g, 0, none⟩ = some (.int .i64 who) ∧ w'.cell? ⟨w.heap.size, 2 + who * 7, none⟩ = some (.int .i64 own.x) ∧ w'.cell? ⟨w.heap.size, 2 + who * 7 + 1, none⟩ = some (.int .i64 own.y) ∧ w'.cell? ⟨w.heap.size, 2 + who * 7 + 2, none⟩ = some (.int .i64 own.vx) ∧ w'.cell? ⟨w.heap.size, 2 + who * 7 + 3, none⟩ = some (.int .i64 own.vy) ∧ w'.cell? ⟨w.heap.size, 2 + who * 7 + 4, none⟩ = some (.int .i64 own.life) ∧ w'.cell? ⟨w.heap.size, 2 + who * 7 + 5, none⟩ = some (.int .i64 own.cool) ∧ w'.cell? ⟨w.heap.size, 2 + who * 7 + 6, none⟩ = some (.int .i64 own.facing) ∧ w'.cell? ⟨w.heap.size, 2 + ot * 7, none⟩ = some (.int .i64 oth.x) ∧ w'.cell? ⟨w.heap.size, 2 + ot * 7 + 1, none⟩ = some (.int .i64 oth.y) ∧ w'.cell? ⟨w.heap.size, 2 + ot * 7 + 2, none⟩ = some (.int .i64 oth.vx) ∧ w'.cell? ⟨w.heap.size, 2 + ot * 7 + 3, none⟩ = some (.int .i64 oth.vy) ∧ w'.cell? ⟨w.heap.size, 2 + ot * 7 + 4, none⟩ = some (.int .i64 oth.life) ∧ w'.cell? ⟨w.heap.size, 2 + ot * 7 + 5, none⟩ = some (.int .i64 oth.cool) ∧ w'.cell? ⟨w.heap.size, 2 + ot * 7 + 6, none⟩ = some (.int .i64 oth.facing)) (go_keep) (fail)
    all_goals
      go_wp2_with fail
      go_meet
      first
        | exact ⟨_, _, rfl, rfl, E1.out⟩
        | exact ⟨_, _, rfl, rfl, E2.out⟩
  case rest =>
    obtain ⟨go, gt, rfl, rfl, hE⟩ := hcut
    clear E1 E2 HCH a0 a1 a2 a3 a4 a5 a6 b0 b1 b2 b3 b4 b5 b6 hwr q1 q2 q3 q4 hbit hsub c0 hgw1 HZ
    obtain ⟨d, hd⟩ : ∃ d, drawV s 16 = d := ⟨_, rfl⟩
    have hdi := drawV_in s (m := 16) (by omega)
    have pC1 := Lib.hid (show ∀ W, PB W g who s bold → Calls Try.prog 72 #[.pointer (some ⟨g, 0, none⟩), .int .u32 16] W fun e w' => e = .returned (.int .i64 (drawV s 16)) ∧ w' = W.setCell ⟨g, 1, none⟩ (.int .u32 (rollV s)) from fun W h => chance_any W g who bold 16 s h h0 h1 (by omega) (by omega))
    have r1 := rollV_in s
    have HN := Lib.hid (show chooseN own oth dg s bold = if (bold : Int) ≤ drawV s 16 ∧ drawV s 16 % 2 = 1 then whimN (drawV (rollV s) 8).toNat else restN own oth dg s from rfl)
    have HS := Lib.hid (show chooseS dg s bold = if (bold : Int) ≤ drawV s 16 ∧ drawV s 16 % 2 = 1 then rollV (rollV s) else if dg = true then rollV (rollV s) else rollV s from rfl)
    have HR := Lib.hid (show restN own oth dg s = if dg = true then (if drawV (rollV s) 2 = 0 then wayV own oth + 4 else 32)
      else if facesV own oth = true then (if own.cool = 0 ∧ nearV own.y oth.y 393216 = true then wayV own oth + 16 else wayV own oth) else towV own.x oth.x from rfl)
    rw [hd] at pC1 HN HS hdi
    have hd0 : 0 ≤ d := hdi.1
    have hd1 : d < 16 := hdi.2
    clear hd hdi
    generalize rollV s = s1 at *
    obtain ⟨n8, hn8⟩ : ∃ n8 : Nat, drawV s1 8 = (n8 : Int) := ⟨(drawV s1 8).toNat, by have := drawV_in s1 (m := 8) (by omega); omega⟩
    have hn8l : n8 < 8 := by have := drawV_in s1 (m := 8) (by omega); omega
    have pC8 := Lib.hid (show ∀ W, PB W g who s1 bold → Calls Try.prog 72 #[.pointer (some ⟨g, 0, none⟩), .int .u32 8] W fun e w' => e = .returned (.int .i64 (drawV s1 8)) ∧ w' = W.setCell ⟨g, 1, none⟩ (.int .u32 (rollV s1)) from fun W h => chance_any W g who bold 8 s1 h r1.1 r1.2 (by omega) (by omega))
    have pC2 := Lib.hid (show ∀ W, PB W g who s1 bold → Calls Try.prog 72 #[.pointer (some ⟨g, 0, none⟩), .int .u32 2] W fun e w' => e = .returned (.int .i64 (drawV s1 2)) ∧ w' = W.setCell ⟨g, 1, none⟩ (.int .u32 (rollV s1)) from fun W h => chance_any W g who bold 2 s1 h r1.1 r1.2 (by omega) (by omega))
    rw [hn8] at pC8 HN
    rw [Int.toNat_natCast] at HN
    generalize rollV s1 = s2 at *
    generalize drawV s1 2 = d2 at *
    clear hn8 r1 h0 h1 hbo
    have hE1 := hE.roll s1
    have HE := Lib.hid hE
    have PB0 := Lib.hid hE.pb
    clear hE
    go_wp2_with fail
    refine (pC1.out _ PB0.out).mono ?_
    rintro e W2 ⟨rfl, hW2⟩
    rw [← hW2] at hE1
    have c2 := hE1.pb.c2
    have HE1 := Lib.hid hE1
    clear hE1 hW2 HE PB0 pC1
    go_upto_region 3 with fail
    go_cut [39] (fun v wx => v = .bool (decide ((bold : Int) ≤ d ∧ d % 2 = 1)) ∧ wx = W2)
    case first =>
      by_cases t1 : (bold : Int) ≤ d
      · by_cases t2 : d % 2 = 1
        · have t2' : (d % 2 == 1) = true := by simpa using t2
          go_wp2_with fail
          go_meet
          exact ⟨by first | rfl | trivial | (simp [t1, t2]; done), by first | rfl | trivial⟩
        · have t2' : (d % 2 == 1) = false := by simpa using t2
          go_wp2_with fail
          go_meet
          exact ⟨by first | rfl | trivial | (simp [t1, t2]; done), by first | rfl | trivial⟩
      · go_wp2_with fail
        go_meet
        exact ⟨by first | rfl | trivial | (simp [t1]; done) | (simp; omega), by first | rfl | trivial⟩
    case rest =>
      obtain ⟨rfl, rfl⟩ := hcut
      clear c2
      by_cases hq : (bold : Int) ≤ d ∧ d % 2 = 1
      · have HN2 := HN.out
        have HS2 := HS.out
        rw [if_pos hq] at HN2 HS2
        have hq' : decide ((bold : Int) ≤ d ∧ d % 2 = 1) = true := by simpa using hq
        rw [hq']
        have HN3 := Lib.hid HN2
        have HS3 := Lib.hid HS2
        clear HN2 HS2 HN HS HR hq hq'
        have n0 : (0 : Int) ≤ (n8 : Int) := by omega
        have n1 : (n8 : Int) < 8 := by omega
        have hw8 : IntKind.u32.wrap 8 = 8 := by decide
        go_wp2_with fail
        refine (whims_any _).mono ?_
        rintro e W3 ⟨rfl, hW3⟩
        have b3 : Below wc.heap.size wc W3 := by rw [hW3]; exact (Below.refl _ _).alloc (Nat.le_refl _) _
        have hX3 : Blk W3 wc.heap.size 47 whimC := by rw [hW3]; exact Blk.new _ _ _
        have E3 := HE1.out.below b3
        have HE3 := Lib.hid E3
        have HX3 := Lib.hid hX3
        have HGW := Lib.hid (show wc.heap.size ≠ g from by have := Blk.lt HE1.out.pb; omega)
        generalize wc.heap.size = gw at *
        clear hW3 b3 E3 hX3 HE1
        go_wp2_with fail
        refine (whims_any _).mono ?_
        rintro e W4 ⟨rfl, hW4⟩
        have b4 : Below W3.heap.size W3 W4 := by rw [hW4]; exact (Below.refl _ _).alloc (Nat.le_refl _) _
        have E4 := HE3.out.below b4
        have X4 := HX3.out.below b4 HX3.out.lt
        have hne := HGW.out
        have E5 := E4.roll s2
        have X5 := Blk.far X4 (p := ⟨g, 1, none⟩) hne (.int .u32 s2)
        have HPB := Lib.hid E4.pb
        have HE5 := Lib.hid E5
        have HX5 := Lib.hid X5
        clear hW4 b4 E4 X4 E5 X5 HE3 HX3 hne
        go_wp2_with fail
        refine (pC8.out _ HPB.out).mono ?_
        rintro e W5 ⟨rfl, hW5⟩
        rw [← hW5] at HE5 HX5
        have ck := (HX5.out.cell n8).trans (whimC_at hn8l)
        clear hW5 hn8l HX5 HPB pC8
        go_wp2_with fail
        go_ret
        exact ⟨ret_int (by rw [HN3.out]), by rw [HS3.out]; exact HE5.out.pb, HE5.out.tc⟩
      · have HN2 := HN.out
        have HS2 := HS.out
        rw [if_neg hq] at HN2 HS2
        have hq' : decide ((bold : Int) ≤ d ∧ d % 2 = 1) = false := by simpa using hq
        rw [hq']
        have HN3 := Lib.hid HN2
        have HS3 := Lib.hid HS2
        clear HN2 HS2 HN HS hq hq'
        have HR1 := Lib.hid (HN3.out.trans HR.out)
        clear HN3 HR
        have hsz := LC.size
        have E2 := HE1.out
        obtain ⟨Vo, hVo⟩ : ∃ V, V = (bodL own).toArray := ⟨_, rfl⟩
        obtain ⟨Vt, hVt⟩ : ∃ V, V = (bodL oth).toArray := ⟨_, rfl⟩
        have BO := Lib.hid (show ∀ W, MB W go own → Blk W go 26 Vo from fun W h => by rw [hVo]; exact h)
        have BT := Lib.hid (show ∀ W, MB W gt oth → Blk W gt 26 Vt from fun W h => by rw [hVt]; exact h)
        rw [show bodV own = .agg Vo by rw [hVo]; rfl, show bodV oth = .agg Vt by rw [hVt]; rfl] at pW pF
        have io : (Try.prog.info? 26).map (·.size) = some Vo.size := by rw [hVo]; exact infoB
        have it : (Try.prog.info? 26).map (·.size) = some Vt.size := by rw [hVt]; exact infoB
        have ho := BO.out _ E2.mo
        have ht := BT.out _ E2.mt
        have hlt3 := wayV_lt own oth
        obtain ⟨wv, hwv⟩ : ∃ wv, wayV own oth = wv := ⟨_, rfl⟩
        rw [hwv] at pW hlt3 HR1
        obtain ⟨or4, or16, or32⟩ := orB hlt3
        have OR4 := Lib.hid or4
        have OR16 := Lib.hid or16
        have OR32 := Lib.hid or32
        have HE2 := Lib.hid E2
        clear hVo hVt hwv hlt3 or4 or16 or32 E2 HE1
        go_wp2_with (first
          | (refine wpList_load_blk (by rfl) 26 _ (by rfl) go (by rfl) _ Vo _ ho Try.underlying26 (by rfl) io ?_)
          | (refine wpList_load_blk (by rfl) 26 _ (by rfl) gt (by rfl) _ Vt _ ht Try.underlying26 (by rfl) it ?_)
          | fail)
        refine (pW.out _).mono ?_
        rintro e W3 ⟨rfl, b3⟩
        have E3 := HE2.out.below b3
        have c0 := E3.pb.c0
        have hst3 := E3.st
        have HE3 := Lib.hid E3
        have cA0 : cellsAt W3.drew w.heap.size = C ∧ W3.drew.cell? ⟨g, 0, none⟩ = some (.int .i64 who) := ⟨cellsAt_blk hst3, c0⟩
        clear ho ht b3 E3 HE2 pW hst3 c0
        go_upto_region 6 with fail
        go_cut [56] (fun v wx => v = .bool dg ∧ RowKit.Below W3.heap.size W3 wx)
        case first =>
          go_region_held3 (fun w' => cellsAt w' w.heap.size = C ∧ w'.cell? ⟨g, 0, none⟩ = some (.int .i64 who)) (first | exact cA0 | exact ⟨cellsAt_blk (Blk.below HE3.out.st b4 (Blk.lt HE3.out.st)), (PB.below HE3.out.pb b4).c0⟩)
            (first
              | (go_at_call 74; refine (pD.out _).mono ?_; rintro e W4 ⟨rfl, b4'⟩; have b4 : Below W3.heap.size W3 W4 := ⟨b4'.os, b4'.tape, b4'.output, b4'.size, b4'.block⟩)
              | fail "no arm")
          all_goals
            go_wp2_with fail
            go_meet
            exact ⟨by first | rfl | trivial, b4⟩
        case rest =>
          obtain ⟨rfl, b4⟩ := hcut
          have E4 := HE3.out.below b4
          clear b4 cA0 HE3 pD
          cases dg
          · have HR2 := HR1.out
            have HS2 := HS3.out
            rw [if_neg (by simp)] at HR2 HS2
            have HR3 := Lib.hid HR2
            have HS4 := Lib.hid HS2
            clear HR1 HR2 HS2 HS3 pC2 pC8 OR4 OR32
            have m1 := E4.mo.c1
            have m5 := E4.mo.c5
            have m0 := E4.mo.c0
            have t0 := E4.mt.c0
            have t1 := E4.mt.c1
            have ho := BO.out _ E4.mo
            have ht := BT.out _ E4.mt
            have HE4 := Lib.hid E4
            clear E4
            go_wp2_with fail
            refine (pN.out _).mono ?_
            rintro e W5 ⟨rfl, rfl⟩
            go_wp2_with (first
              | (refine wpList_load_blk (by rfl) 26 _ (by rfl) go (by rfl) _ Vo _ ho Try.underlying26 (by rfl) io ?_)
              | (refine wpList_load_blk (by rfl) 26 _ (by rfl) gt (by rfl) _ Vt _ ht Try.underlying26 (by rfl) it ?_)
              | fail)
            refine (pF.out _).mono ?_
            rintro e W5 ⟨rfl, b5⟩
            have E5 := HE4.out.below b5
            have n0 := E5.mo.c0
            have s0 := E5.mt.c0
            have n5 := E5.mo.c5
            have HE5 := Lib.hid E5
            clear ho ht m0 m1 m5 t0 t1 b5 E5 HE4 pF pN
            generalize facesV own oth = fc at *
            generalize nearV own.y oth.y 393216 = lv at *
            cases fc
            · have HR4 := HR3.out
              rw [if_neg (by simp)] at HR4
              have HR5 := Lib.hid HR4
              clear HR3 HR4 n5
              go_wp2_with fail
              refine (pT.out _).mono ?_
              rintro e W6 ⟨rfl, rfl⟩
              go_wp2_with fail
              go_ret
              exact ⟨ret_int (by rw [HR5.out]; try omega), by rw [HS4.out]; exact HE5.out.pb, HE5.out.tc⟩
            · have HR4 := HR3.out
              rw [if_pos rfl] at HR4
              have HR5 := Lib.hid HR4
              clear HR3 HR4 n0 s0
              cases lv
              · have HR6 := HR5.out
                rw [if_neg (by simp)] at HR6
                have HR7 := Lib.hid HR6
                clear HR5 HR6
                go_wp2_with fail
                go_ret
                exact ⟨ret_int (by rw [HR7.out]; try omega), by rw [HS4.out]; exact HE5.out.pb, HE5.out.tc⟩
              · by_cases hc : own.cool = 0
                · have HR6 := HR5.out
                  rw [if_pos ⟨hc, rfl⟩] at HR6
                  have HR7 := Lib.hid HR6
                  rw [hc] at n5
                  have o16 := OR16.out
                  clear HR5 HR6 hc
                  go_wp2_with fail
                  go_ret
                  exact ⟨ret_int (by rw [HR7.out]; try omega), by rw [HS4.out]; exact HE5.out.pb, HE5.out.tc⟩
                · have HR6 := HR5.out
                  rw [if_neg (fun h => hc h.1)] at HR6
                  have HR7 := Lib.hid HR6
                  have hc' : (own.cool == 0) = false := by simpa using hc
                  clear HR5 HR6 hc
                  go_wp2_with fail
                  go_ret
                  exact ⟨ret_int (by rw [HR7.out]; try omega), by rw [HS4.out]; exact HE5.out.pb, HE5.out.tc⟩
          · have HR2 := HR1.out
            have HS2 := HS3.out
            rw [if_pos rfl] at HR2 HS2
            have HR3 := Lib.hid HR2
            have HS4 := Lib.hid HS2
            have HP4 := Lib.hid E4.pb
            have HE4 := Lib.hid (E4.roll s2)
            clear HR1 HR2 HS2 HS3 pC8 pF pN pT E4
            go_wp2_with fail
            refine (pC2.out _ HP4.out).mono ?_
            rintro e W5 ⟨rfl, hW5⟩
            rw [← hW5] at HE4
            clear hW5
            by_cases hd : d2 = 0
            · have HR4 := HR3.out
              rw [if_pos hd] at HR4
              have HR5 := Lib.hid HR4
              have hd' : (d2 == 0) = true := by simpa using hd
              have o4 := OR4.out
              clear HR3 HR4 hd
              go_wp2_with fail
              go_ret
              exact ⟨ret_int (by rw [HR5.out]; try omega), by rw [HS4.out]; exact HE4.out.pb, HE4.out.tc⟩
            · have HR4 := HR3.out
              rw [if_neg hd] at HR4
              have HR5 := Lib.hid HR4
              have hd' : (d2 == 0) = false := by simpa using hd
              have o32 := OR32.out
              clear HR3 HR4 hd
              go_wp2_with fail
              go_ret
              exact ⟨ret_int (by rw [HR5.out]; rfl), by rw [HS4.out]; exact HE4.out.pb, HE4.out.tc⟩
end Go.Proofs.Ytblnfkhaicjeaaa.Bot
