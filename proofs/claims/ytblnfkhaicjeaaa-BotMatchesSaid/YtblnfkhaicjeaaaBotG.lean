/-
  backstaylaw34.BotChooses.
-/
import Derived.Test.YtblnfkhaicjeaaaBotF
import Derived.Test.YtblnfkhaicjeaaaOpenSts
namespace Go.Proofs.Ytblnfkhaicjeaaa.Bot
open Go.RowKit Go.Proofs.Ytblnfkhaicjeaaa.Num Go.Proofs.Ytblnfkhaicjeaaa.Gm Go.Proofs.Ytblnfkhaicjeaaa.Byt
set_option linter.all false
attribute [local go_sem ↓] exec33
theorem loadR33 (w : World) (g o : Nat) : loadR Try.prog 33 (.pointer (some ⟨g, o, none⟩)) w = loadI w (loadR0 Try.prog 33 (.pointer (some ⟨g, o, none⟩)) w) (rowIn w g o 66) :=
  loadR_mid w g o _ Try.underlying33 rfl infoSt
attribute [local go_sem] loadR33 loadI_some rowIn_drew

set_option maxHeartbeats 1000000 in
theorem botnew_any (a s b : Int) (w : World) (h : 0 ≤ a ∧ a ≤ 1 ∧ 0 ≤ b ∧ b ≤ 16) :
    Calls Try.prog 29 #[.int .i64 a, .int .u32 s, .int .i64 b] w fun e w' => e = .returned (.tuple #[.pointer (some ⟨w.heap.size, 0, none⟩), .int .i64 0]) ∧ w' = w.alloc (.cells #[.int .i64 a, .int .u32 s, .int .i64 b] 61) := by
  obtain ⟨h1, h2, h3, h4⟩ := h
  go_enter Try.func29, Try.ntmps29
  go_wp2
  go_ret2
  exact ⟨rfl, rfl⟩
def rightB (a b : Int) : Bool := decide (0 ≤ a ∧ a ≤ 1 ∧ 0 ≤ b ∧ b ≤ 16)
set_option maxHeartbeats 1000000 in
theorem right_any (a s b : Int) (w : World) :
    Calls Try.prog 28 #[.agg #[.int .i64 a, .int .u32 s, .int .i64 b]] w fun e w' => e = .returned (.bool (rightB a b)) ∧ Below w.heap.size w w' := by
  go_enter Try.func28, Try.ntmps28
  go_wp2
  all_goals
    go_ret
    refine ⟨ret_bool ?_, (Below.refl _ w).alloc (Nat.le_refl _) _⟩
    rw [rightB, Bool.eq_iff_iff]
    simp
    try omega
set_option maxHeartbeats 1000000 in
theorem bawake_any (w : World) :
    Calls Try.prog 27 #[] w fun e w' => e = .returned (.bool true) ∧ Below w.heap.size w w' := by
  go_enter Try.func27, Try.ntmps27
  go_wp2_with (first | (go_at_call 29; refine (botnew_any _ _ _ _ (by omega)).mono ?_; rintro e w' ⟨rfl, rfl⟩) | (go_at_call 66; refine (whims_any _).mono ?_; rintro e w' ⟨rfl, rfl⟩))
  go_ret
  exact ⟨rfl, ((Below.refl _ _).alloc (by simp) _).alloc (by simp) _⟩
theorem whimN_mod {n : Nat} (h : n < 8) : whimN n % 4 ≠ 3 := by
  match n, h with
  | 0, _ => decide
  | 1, _ => decide
  | 2, _ => decide
  | 3, _ => decide
  | 4, _ => decide
  | 5, _ => decide
  | 6, _ => decide
  | 7, _ => decide
theorem towV_lt (a b : Int) : towV a b < 3 := by
  unfold towV
  (repeat' split) <;> decide
theorem chooseN_mod (own oth : Body) (dg : Bool) (s : Int) (bold : Nat) : chooseN own oth dg s bold % 4 ≠ 3 ∧ chooseN own oth dg s bold < 65536 := by
  have h1 := wayV_lt own oth
  have h2 := towV_lt own.x oth.x
  have h3 : (drawV (rollV s) 8).toNat < 8 := by have := drawV_in (rollV s) (m := 8) (by omega); omega
  have h4 := whimN_mod h3
  have h5 : ∀ n, n < 8 → whimN n < 65536 := fun n hn => by
    match n, hn with
    | 0, _ => decide
    | 1, _ => decide
    | 2, _ => decide
    | 3, _ => decide
    | 4, _ => decide
    | 5, _ => decide
    | 6, _ => decide
    | 7, _ => decide
  have h6 := h5 _ h3
  unfold chooseN restN
  (repeat' split) <;> (first | exact ⟨h4, h6⟩ | omega)

/-- The program's player and the document's, side by side. -/
structure Pair (w W : World) (gp gw : Nat) (who : Nat) (s : Int) (bold : Nat) : Prop where
  p : PB W gp who s bold
  b : BV W gw who s bold
  lo : Below w.heap.size w W
  hp : w.heap.size ≤ gp
  hb : w.heap.size ≤ gw
  ne : gp ≠ gw
section
variable {w W W' : World} {gp gw who bold : Nat} {s t : Int}
theorem Pair.below (h : Pair w W gp gw who s bold) (hb : RowKit.Below W.heap.size W W') : Pair w W' gp gw who s bold :=
  ⟨PB.below h.p hb, Blk.below h.b hb (Blk.lt h.b), h.lo.trans (hb.mono h.lo.size), h.hp, h.hb, h.ne⟩
end

set_option maxRecDepth 100000 in
set_option maxHeartbeats 8000000 in
theorem chooses_law (w : World) (a sd bo : Int) (x : Option Addr) (c : Nat) (fs : List F) (h0 : 0 ≤ sd) (h1 : sd < 4294967296) (hr : StRow w x fs) (hl : fs.length ≤ 9223372036854775807) :
    Calls Try.prog 7 #[.agg #[.int .i64 a, .int .u32 sd, .int .i64 bo], .slice x fs.length c] w fun e w' => e = .returned (.bool true) ∧ Below w.heap.size w w' := by
  have pA := Lib.hid (fun W => bawake_any W)
  have pR := Lib.hid (fun W => right_any a sd bo W)
  have B0 := Lib.hid ((Below.refl _ w).alloc (Nat.le_refl _) (.cells #[.int .i64 a, .int .u32 sd, .int .i64 bo] 50))
  by_cases hq : 0 ≤ a ∧ a ≤ 1 ∧ 0 ≤ bo ∧ bo ≤ 16
  · have hrb : rightB a bo = true := by simpa [rightB] using hq
    rw [hrb] at pR
    have pN := Lib.hid (fun W => botnew_any a sd bo W hq)
    obtain ⟨who, rfl⟩ : ∃ who : Nat, a = who := ⟨a.toNat, by omega⟩
    obtain ⟨bold, rfl⟩ : ∃ bold : Nat, bo = bold := ⟨bo.toNat, by omega⟩
    have hwho : who < 2 := by omega
    have hbo : bold ≤ 16 := by omega
    have HR := Lib.hid hr
    clear hr hrb hq
    go_enter Try.func7, Try.ntmps7
    go_wp2_with fail
    refine (pA.out _).mono ?_
    rintro e w1 ⟨rfl, b1⟩
    obtain ⟨hc1, hf1⟩ := bcell b1
    have hz1 := b1.size
    have B1 := Lib.hid (B0.out.trans (b1.mono B0.out.size))
    go_wp2_with fail
    refine (pR.out _).mono ?_
    rintro e w2 ⟨rfl, b2⟩
    obtain ⟨hc2, hf2⟩ := bcell b2
    have B2 := Lib.hid (B1.out.trans (b2.mono B1.out.size))
    have hz2 : w.heap.size < w1.heap.size := by have := hz1; simp at this; omega
    have hz12 := b2.size
    clear b1 b2
    go_wp2_with fail
    refine (pN.out _).mono ?_
    rintro e w3 ⟨rfl, hw3⟩
    have PX : PB w3 w2.heap.size who sd bold := by rw [hw3]; exact Blk.new _ _ _
    have B3 : Below w.heap.size w w3 := by rw [hw3]; exact B2.out.alloc B2.out.size _
    have hz3 : w3.heap.size = w2.heap.size + 1 := by rw [hw3]; simp
    have b3 : Below w2.heap.size w2 w3 := by rw [hw3]; exact (Below.refl _ w2).alloc (Nat.le_refl _) _
    obtain ⟨hc3, hf3⟩ := bcell b3
    have hz4 : w.heap.size < w2.heap.size := by omega
    have P4 : Pair w (w3.alloc (.cells #[.int .i64 who, .int .u32 sd, .int .i64 bold] 57)) w2.heap.size w3.heap.size who sd bold :=
      ⟨Blk.alloc PX _, Blk.new _ _ _, B3.alloc B3.size _, by omega, by omega, by omega⟩
    have HP := Lib.hid P4
    clear hw3 PX B3 hz3 b3 P4 B0 B1 B2
    go_upto_region 9 with fail
    clear hc1 hc2 hc3 hf1 hf2 hf3 hz1 hz2 hz4 pA pR pN
    generalize w3.alloc (.cells #[.int .i64 who, .int .u32 sd, .int .i64 bold] 57) = W4 at *
    generalize w2.heap.size = gp at *
    generalize w3.heap.size = gw at *
    have HSD := Lib.hid (⟨h0, h1⟩ : 0 ≤ sd ∧ sd < 4294967296)
    clear h0 h1
    go_wp2_with fail
    go_loopw [8] (fun iv wr => ∃ i : Nat, i ≤ fs.length ∧ iv = .int .i64 i ∧ ∃ s : Int, (0 ≤ s ∧ s < 4294967296) ∧ Pair w wr gp gw who s bold) (fun iv _ => fs.length - (intOf iv).toNat)
    case atStart => exact ⟨0, by omega, rfl, sd, HSD.out, HP.out⟩
    case round =>
      clear HP HSD
      obtain ⟨i, hi, rfl, s, hs, hP⟩ := hrel
      have i1 : (0 : Int) ≤ (i : Int) := by omega
      by_cases hlt : i < fs.length
      · have i0 : (i : Int) < (fs.length : Int) := by omega
        by_cases h40 : i < 40
        · have i4 : (i : Int) < 40 := by omega
          obtain ⟨b, o, rfl, hlb, hrow⟩ := (HR.out.below hP.lo).2 (by omega)
          have hf : fs[i]? = some (fs[i]'hlt) := List.getElem?_eq_getElem hlt
          have hrg := hrow i _ hf
          have hwf := HR.out.1 (fs[i]'hlt) (List.getElem_mem hlt)
          generalize fs[i]'hlt = f at *
          obtain ⟨L, LC⟩ : ∃ L : List Value, Let L.toArray f := by
            obtain ⟨C, LC⟩ := let_of f
            exact ⟨C.toList, by simpa using LC⟩
          have hLs : L = (stA f).toList := by rw [← LC.eq]
          rw [← hLs] at hrg
          have hln : L.length = 66 := by simpa using LC.size
          have hrin := rowIn_of hrg hln
          have hil : (Try.prog.info? 33).map (·.size) = some L.length := by rw [hln]; exact infoSt
          have pRC := Lib.hid (fun W => rchoose_any W who bold s L.toArray f LC hwf hwho hbo hs.1 hs.2)
          have pC := Lib.hid (fun W (h : PB W gp who s bold) => choose_any W gp who bold s L.toArray f LC hwf h hwho hbo hs.1 hs.2)
          have hmod := chooseN_mod (bod f (2 + who * 7)) (bod f (2 + (1 - who) * 7)) (dangerV f who) s bold
          have hsin := chooseS_in (dangerV f who) s bold
          unfold botV at pRC
          generalize chooseN (bod f (2 + who * 7)) (bod f (2 + (1 - who) * 7)) (dangerV f who) s bold = N at *
          generalize chooseS (dangerV f who) s bold = s' at *
          have HSX := Lib.hid (show ∀ W, Below wr.heap.size wr W → (W.cell? ⟨gw, 0, none⟩ = some (.int .i64 who) ∧ W.cell? ⟨gw, 1, none⟩ = some (.int .u32 s) ∧ W.cell? ⟨gw, 2, none⟩ = some (.int .i64 bold) ∧ rowIn W b (o + i * 66) 66 = some L) from fun W hb =>
            have hB := (hP.below hb).b
            ⟨Blk.cell hB 0, Blk.cell hB 1, Blk.cell hB 2, rowIn_of (rangeAt_below hrg hb hlb) hln⟩)
          have hS0 := HSX.out wr.drew ((Below.refl _ wr).drew)
          have HP := Lib.hid hP
          have HRG := Lib.hid (show ∀ W, Below wr.heap.size wr W → W.rangeAt b (o + i * 66) L from fun W hb => rangeAt_below hrg hb hlb)
          have HM := Lib.hid hmod
          have HS := Lib.hid hsin
          have HLT := Lib.hid hlt
          clear hs hP hrow hf hrg hwf LC hLs hrin hmod hsin hlt h40 hln hlb
          go_upto_region 12 with fail
          go_cut [9, 10] (fun v9 v10 wx => ∃ g9, v9 = .pointer (some ⟨g9, 0, none⟩) ∧ v10 = .int .u16 N ∧ BV wx g9 who s' bold ∧ Below wr.heap.size wr wx ∧ wr.heap.size ≤ g9)
          case first =>
            go_region_held3 (fun w' => w'.cell? ⟨gw, 0, none⟩ = some (.int .i64 who) ∧ w'.cell? ⟨gw, 1, none⟩ = some (.int .u32 s) ∧ w'.cell? ⟨gw, 2, none⟩ = some (.int .i64 bold) ∧ rowIn w' b (o + i * 66) 66 = some L) (first | exact hS0 | exact hS4 | exact HSX.out _ (((Below.refl _ wr).drew).alloc (Nat.le_refl _) _) | exact HSX.out _ (b5.alloc b5.size _) | exact HSX.out _ (((b5.setCell (by simp) _).setCell (by simp) _).setCell (by simp) _) | fail)
              (first
                | (go_at_call 30; refine (pRC.out _).mono ?_; rintro e W5 ⟨rfl, b5'⟩; have b5 : Below wr.heap.size wr W5 := ⟨b5'.os, b5'.tape, b5'.output, b5'.size, b5'.block⟩; have hS4 := HSX.out W5 b5)
                | (go_at_call 30; refine (pRC.out _).mono ?_; rintro e W5 ⟨rfl, b5'⟩; have b5 : Below wr.heap.size wr W5 := (((Below.refl _ wr).drew).alloc (Nat.le_refl _) _).trans (b5'.mono (by simp)); have hS4 := HSX.out W5 b5; have hZ5 : BV W5 wr.heap.size 0 0 0 := Blk.below (Blk.new wr.drew 57 #[.int .i64 0, .int .u32 0, .int .i64 0]) b5' (by simp); have z0 : W5.cell? ⟨wr.heap.size, 0, none⟩ = some (.int .i64 0) := Blk.cell hZ5 0; have z1 : W5.cell? ⟨wr.heap.size, 1, none⟩ = some (.int .u32 0) := Blk.cell hZ5 1; have z2 : W5.cell? ⟨wr.heap.size, 2, none⟩ = some (.int .i64 0) := Blk.cell hZ5 2; have g0 := Blk.frozen hZ5 0; have g1 := Blk.frozen hZ5 1; have g2 := Blk.frozen hZ5 2)
                | fail "no arm")
            all_goals
              go_wp2_with fail
              go_meet
              first
                | exact ⟨_, rfl, rfl, Blk.new W5 _ _, b5.alloc b5.size _, b5.size⟩
                | exact ⟨_, rfl, rfl, Blk.set_ (Blk.set_ (Blk.set_ hZ5 0 _) 1 _) 2 _, ((b5.setCell (by simp) _).setCell (by simp) _).setCell (by simp) _, Nat.le_refl _⟩
          case rest =>
            obtain ⟨g9, rfl, rfl, h9, b9, hg9⟩ := hcut
            have P9 := HP.out.below b9
            have hrg := HRG.out wc b9
            have PB9 := Lib.hid P9.p
            have gpl := Blk.lt HP.out.p
            have gwl := Blk.lt HP.out.b
            have hne1 := P9.ne
            have n1 : g9 ≠ gp := by omega
            have n2 : g9 ≠ gw := by omega
            have LP := Lib.hid P9.hp
            have HP9 := Lib.hid P9
            have H9 := Lib.hid h9
            have N1 := Lib.hid n1
            have N2 := Lib.hid n2
            clear hS0 HSX HRG pRC HP P9 h9 b9 hg9 gpl gwl hne1 n1 n2
            go_wp2_with (first | (refine wpList_load_mid (by rfl) 33 _ (by rfl) b (o + i * 66) (by rfl) L _ hrg Try.underlying33 (by rfl) hil ?_) | fail)
            refine (pC.out _ PB9.out).mono ?_
            rintro e W6 ⟨rfl, hp6, t6⟩
            have hb6 : BV W6 gw who s bold := Blk.touch HP9.out.b t6 (fun h => HP9.out.ne h.symm)
            have h6 : BV W6 g9 who s' bold := Blk.touch H9.out t6 (fun h => N1.out h)
            have B6 := HP9.out.lo.trans (t6.below HP9.out.lo.size (fun k hk => by have := LP.out; omega))
            have P6 : Pair w (W6) gp gw who s bold → True := fun _ => trivial
            have c1 : W6.cell? ⟨gp, 1, none⟩ = some (.int .u32 s') := hp6.c1
            have d0 : W6.cell? ⟨g9, 0, none⟩ = some (.int .i64 who) := Blk.cell h6 0
            have d1 : W6.cell? ⟨g9, 1, none⟩ = some (.int .u32 s') := Blk.cell h6 1
            have d2 : W6.cell? ⟨g9, 2, none⟩ = some (.int .i64 bold) := Blk.cell h6 2
            have HP6 := Lib.hid hp6
            have HB6 := Lib.hid hb6
            have H6 := Lib.hid h6
            have BB6 := Lib.hid B6
            clear hrg hil PB9 pC t6 hp6 hb6 h6 B6 P6
            have hNm : ((N : Int) % 4 == 3) = false := by have := HM.out.1; simp; omega
            have hNw := HM.out.2
            have n0 : (0 : Int) ≤ (N : Int) := by omega
            have n1 : (N : Int) < 65536 := by omega
            go_upto_region 14 with fail
            go_quiet (fail)
            have hX9 : Blk (W6.drewN nq) g9 57 #[.int .i64 who, .int .u32 s', .int .i64 bold] := Blk.drewN H6.out nq
            have hY9 : Blk (W6.drewN nq) gw 57 #[.int .i64 who, .int .u32 s, .int .i64 bold] := Blk.drewN HB6.out nq
            clear c1 d0 d1 d2 hNm hNw n0 n1
            go_wp2_with (first
              | (refine wpList_load_blk (by rfl) 57 _ (by rfl) g9 (by rfl) _ #[.int .i64 who, .int .u32 s', .int .i64 bold] _ hX9 Try.underlying57 (by rfl) ib57 ?_)
              | (refine wpList_store_blk (by rfl) 57 _ _ (by rfl) gw #[.int .i64 who, .int .u32 s', .int .i64 bold] (by rfl) (by rfl) _ _ hY9 ib57 rfl (by simp [Value.oneCell']) ?_; intro W8 hd8 ht8)
              | fail)
            have hPB8 : PB W8 gp who s' bold := Blk.touch (Blk.drewN HP6.out nq) ht8 (HP9.out.ne)
            have hlo8 : Below w.heap.size w W8 := (below_drewN BB6.out nq).trans (ht8.below (by exact BB6.out.size) (fun k hk => by have := HP9.out.hb; omega))
            have P8 : Pair w W8 gp gw who s' bold := ⟨hPB8, hd8, hlo8, HP9.out.hp, HP9.out.hb, HP9.out.ne⟩
            have hlt := HLT.out
            clear hX9 hY9 hd8 ht8 hPB8 hlo8
            go_wp2_with fail
            go_roundw
            case rel => exact ⟨i + 1, by omega, by go_num, s', HS.out, P8⟩
            case measure => simp [intOf]; omega
        · have i4 : ¬ (i : Int) < 40 := by omega
          have B9 := hP.lo
          clear hP hlt h40
          go_wp2_with fail
          go_ret
          exact ⟨rfl, B9⟩
      · have i0 : ¬ (i : Int) < (fs.length : Int) := by omega
        have B9 := hP.lo
        clear hP hlt
        go_wp2_with fail
        go_ret
        exact ⟨rfl, B9⟩
  · have hrb : rightB a bo = false := by simp only [rightB, decide_eq_false_iff_not]; exact hq
    rw [hrb] at pR
    clear hr hrb hq
    go_enter Try.func7, Try.ntmps7
    go_wp2_with fail
    refine (pA.out _).mono ?_
    rintro e w1 ⟨rfl, b1⟩
    obtain ⟨hc1, hf1⟩ := bcell b1
    have hz1 := b1.size
    have B1 := Lib.hid (B0.out.trans (b1.mono B0.out.size))
    go_wp2_with fail
    refine (pR.out _).mono ?_
    rintro e w2 ⟨rfl, b2⟩
    have B2 := Lib.hid (B1.out.trans (b2.mono B1.out.size))
    clear b1 b2
    go_wp2_with fail
    go_ret
    exact ⟨rfl, B2.out⟩
end Go.Proofs.Ytblnfkhaicjeaaa.Bot
