/-
  Texts joined: Rstep, Rplay. No condition.
-/
import Derived.Test.YtlhoffhagfhbcaaBDiff15
namespace Go.Proofs.Ytlhoffhagfhbcaa.Gm
open Go.RowKit Go.Sort Go.Proofs.Ytlhoffhagfhbcaa.Num
set_option linter.all false
attribute [local go_sem ↓] exec_st26 exec_ld26 exec33 exec_st33
attribute [local go_sem] loadR26 loadI_some rowIn_drew loadR_at cellsAt_drew

theorem storeR_blk {w : World} {g : Nat} {t ty : TypeId} {old cells : Array Value} (hg : Blk w g t old) (hi : (Try.prog.info? ty).map (·.size) = some cells.size) (ho : old.size = cells.size) (h1 : cells.all (·.oneCell') = true) :
    ∃ w', storeR Try.prog ty (.pointer (some ⟨g, 0, none⟩)) (.agg cells) w = .ok .skip w' ∧ Blk w' g t cells ∧ Touch (fun k => k = g) w w' := by
  refine ⟨w.setRow g cells, ?_, Blk.setRow hg cells, touch_setRow w g cells⟩
  unfold storeR
  simp only [Instr.storeAt, Instr.sureAddr, Sem.run_bind, Sem.run_pure, Result.andThen_ok, run_storeVar_row w g t ty old cells hg hi ho h1]

theorem wpStill_load_mid {P : Program} {ops : Array Oper} {w : World} {Q : Act → Prop} {a : Act} {o : Oper} {rest : List Oper} (hgd : o.guard = none) (ty : TypeId) (x : Operand) (ho : o.op = .load ty x)
    (b off : Nat) (hx : a.eval x = .pointer (some ⟨b, off, none⟩)) (cells : List Value) (d : TypeDesc) (hr : w.rangeAt b off cells)
    (hu : P.underlying ty = some d) (hd : d.isRow = true) (hi : (P.info? ty).map (·.size) = some cells.length)
    (h : wpStill P ops w Q rest (a.put o.dst (.agg cells.toArray))) : wpStill P ops w Q (o :: rest) a := by
  refine wpStill_step fun K hK => ?_
  have hw : Region.wanted o (yielded ops a.tmps) = true := by simp [Region.wanted, hgd]
  rw [if_pos hw]
  unfold Oper.still execOp
  simp only [ho, hx, Sem.run_bind, run_loadAt_mid w b off ty cells d hr hu hd hi, Sem.run_pure, Result.andThen_ok]
  exact ⟨rfl, hK _ h⟩

/-- What lies there while a step is made: the state, the buttons, the result. -/
structure StepX (w W : World) (f : F) (n0 n1 : Nat) : Prop where
  st : SB W w.heap.size 31 f
  inp : Blk W (w.heap.size + 1) 69 #[.int .u16 n0, .int .u16 n1]
  res : Blk W (w.heap.size + 1 + 1) 31 Try.zeroCells31
  lo : RowKit.Below w.heap.size w W
section
variable {w W W' : World} {f f' : F} {n0 n1 : Nat}
theorem StepX.below (h : StepX w W f n0 n1) (hb : RowKit.Below W.heap.size W W') : StepX w W' f n0 n1 :=
  ⟨h.st.below hb h.st.lt, h.inp.below hb h.inp.lt, h.res.below hb h.res.lt, h.lo.trans (hb.mono h.lo.size)⟩
theorem StepX.setG (h : StepX w W f n0 n1) (j : Nat) (u : Value) (hs : SB (W.setCell ⟨w.heap.size, j, none⟩ u) w.heap.size 31 f') : StepX w (W.setCell ⟨w.heap.size, j, none⟩ u) f' n0 n1 :=
  ⟨hs, Blk.far h.inp (by simp) u, Blk.far h.res (by simp; omega) u, h.lo.setCell (by simp) u⟩
theorem StepX.touchG (h : StepX w W f n0 n1) (T : Touch (fun k => k = w.heap.size) W W') (hs : SB W' w.heap.size 31 f') : StepX w W' f' n0 n1 :=
  ⟨hs, h.inp.touch T (by omega), h.res.touch T (by omega), h.lo.trans (T.below h.lo.size (fun k hk => by omega))⟩
theorem StepX.cellsG (h : StepX w W f n0 n1) (o : Nat) (L : List Value) (hs : SB (W.setCells w.heap.size o L) w.heap.size 31 f') : StepX w (W.setCells w.heap.size o L) f' n0 n1 :=
  h.touchG (touch_setCells (S := fun k => k = w.heap.size) (Touch.refl _ _) _ (.inl rfl) _ _) hs
end

set_option maxRecDepth 100000 in
set_option maxHeartbeats 8000000 in
theorem rstep_any (w : World) (C : Array Value) (f : F) (fr sc : Int) (n : Nat → Nat) (LC : Let C f) (hn : ∀ i, i < 2 → n i < 65536) (hI : Inv fr sc f) (hsc : sc ≤ 4611686018427387000) (hfr : fr ≤ 4611686018427387904) (hfr0 : 0 ≤ fr) :
    Calls Try.prog 79 #[.agg C, inV n] w fun e w' => ∃ C', Let C' (stepF f n) ∧ e = .returned (.agg C') ∧ Below w.heap.size w w' := by
  obtain ⟨W1, hW1⟩ : ∃ W1, W1 = ((w.alloc (.cells C 31)).alloc (.cells #[.int .u16 (n 0), .int .u16 (n 1)] 69)).alloc (.cells Try.zeroCells31 31) := ⟨_, rfl⟩
  have E1 : StepX w W1 f (n 0) (n 1) := by
    refine ⟨?_, ?_, ?_, ?_⟩
    · rw [hW1]; exact ((LC.sb (Blk.new w 31 C)).alloc _).alloc _
    · rw [hW1]
      have := (Blk.new (w.alloc (.cells C 31)) 69 #[.int .u16 (n 0), .int .u16 (n 1)]).alloc (.cells Try.zeroCells31 31)
      simpa using this
    · rw [hW1]
      have := Blk.new ((w.alloc (.cells C 31)).alloc (.cells #[.int .u16 (n 0), .int .u16 (n 1)] 69)) 31 Try.zeroCells31
      simpa using this
    · rw [hW1]; exact (((Below.refl _ w).alloc (Nat.le_refl _) _).alloc (by simp) _).alloc (by simp; omega) _
  have CBX := Lib.hid (show ∀ W, Blk W (w.heap.size + 1) 69 #[.int .u16 (n 0), .int .u16 (n 1)] → ∀ i, i < 2 → W.cell? ⟨w.heap.size + 1, i, none⟩ = some (.int .u16 (n i)) from fun W hW i hi => by
    rw [hW.cell i]
    have e : i = 0 ∨ i = 1 := by omega
    rcases e with rfl | rfl <;> rfl)
  have HN := Lib.hid hn
  have HI := Lib.hid hI
  have hf0 := hI.frame
  have sd0 := hI.seed0
  have sd1 := hI.seed1
  have c0 := E1.st.int (j := 0) (by omega) (by omega) (by omega)
  have c1 := E1.st.seed
  have f0 := E1.st.fr 0
  have f1 := E1.st.fr 1
  rw [hf0] at c0
  have hw1 : IntKind.i64.wrap (fr + 1) = fr + 1 := IntWalk.i64_in _ (by omega)
  have e := show IntKind.u32.wrap (IntKind.u32.wrap (f 1 * 1664525) + 1013904223) = rollV (f 1) by simp [IntKind.wrap, IntKind.bits, IntKind.signed, rollV]
  have e3 : (f 1 * 1664525 + 1013904223) % 4294967296 = rollV (f 1) := by rw [← e]; simp [IntKind.wrap, IntKind.bits, IntKind.signed]
  have e4 : (f 1 * 1664525 % 4294967296 + 1013904223) % 4294967296 = rollV (f 1) := by rw [← e]; simp [IntKind.wrap, IntKind.bits, IntKind.signed]
  have S2 := (E1.st.setInt (j := 0) (by omega) (by omega) (by omega) (fr + 1)).set_ (j := 1) (by omega) (rollV (f 1))
  rw [cv_seed] at S2
  have e2 : put (put f 0 (fr + 1)) 1 (rollV (f 1)) = bodiesF f n 0 := by rw [← hf0]; rfl
  rw [e2] at S2
  have T2 : TG w.heap.size W1 ((W1.setCell ⟨w.heap.size, 0, none⟩ (.int .i64 (fr + 1))).setCell ⟨w.heap.size, 1, none⟩ (.int .u32 (rollV (f 1)))) := TG.set (TG.set (Touch.refl _ _) _ _) _ _
  have E2 := E1.touchG (TG.set (TG.set (Touch.refl _ _) _ _) _ _) S2
  have HE2 := Lib.hid E2
  unfold inV
  clear E1 hn hI hf0 e e2 S2 T2 E2 LC
  go_enter Try.func79, Try.ntmps79
  go_upto_region 1 with fail
  rw [← hW1]
  clear hW1
  go_upto_region 3 with fail
  rw [e4]
  generalize f 1 * 1664525 % 4294967296 = u13
  clear c0 c1 f0 f1 hw1 e3 e4
  generalize (W1.setCell ⟨w.heap.size, 0, none⟩ (.int .i64 (fr + 1))).setCell ⟨w.heap.size, 1, none⟩ (.int .u32 (rollV (f 1))) = W2 at *
  go_wp2_with fail
  go_loopw [5] (fun iv wr => ∃ i : Nat, i ≤ 2 ∧ iv = .int .i64 i ∧ StepX w wr (bodiesF f n i) (n 0) (n 1)) (fun iv _ => 2 - (intOf iv).toNat)
  case atStart => exact ⟨0, by omega, rfl, HE2.out⟩
  case round =>
    clear HE2
    obtain ⟨i, hi, rfl, hE⟩ := hrel
    by_cases hlt : i < 2
    · have i1 : (0 : Int) ≤ (i : Int) := by omega
      have i2 : (i : Int) < 2 := by omega
      have hInv := HI.out.bodies n i hi
      have hb := hInv.b i hlt
      have hni := HN.out i hlt
      have cI := CBX.out wr hE.inp i hlt
      have HL := Lib.hid hlt
      have HES := Lib.hid (show bodiesF f n (i + 1) = fireF (setB (bodiesF f n i) (2 + i * 7) (moveB (bod (bodiesF f n i) (2 + i * 7)) (n i))) i (n i) from rfl)
      obtain ⟨Lb, hLb⟩ : ∃ Lb, Lb = bodL (bod (bodiesF f n i) (2 + i * 7)) := ⟨_, rfl⟩
      have hrow : wr.rangeAt w.heap.size (2 + i * 7) Lb := by rw [hLb]; exact hE.st.bodR hlt
      have hiB : (Try.prog.info? 24).map (·.size) = some Lb.length := by rw [hLb]; exact infoB
      obtain ⟨v1, hv1, hv2⟩ : ∃ v1, v1 = (bodL (moveB (bod (bodiesF f n i) (2 + i * 7)) (n i))).toArray ∧ bodV (moveB (bod (bodiesF f n i) (2 + i * 7)) (n i)) = .agg v1 := ⟨_, rfl, rfl⟩
      have pM := Lib.hid (fun W => rmove_any W (n i) (bod (bodiesF f n i) (2 + i * 7)) hni hb)
      rw [hv2, show bodV (bod (bodiesF f n i) (2 + i * 7)) = .agg Lb.toArray by rw [hLb]; rfl] at pM
      have HiV := Lib.hid (show (Try.prog.info? 24).map (·.size) = some v1.size by rw [hv1]; exact infoB)
      have HoV := Lib.hid (show v1.all (·.oneCell') = true by rw [hv1]; exact bodL_one _)
      have HLb := Lib.hid (show Lb.length = 7 by rw [hLb]; rfl)
      have st := Lib.hid (show ∀ W, RowKit.Below wr.heap.size wr W → ∃ W', storeR Try.prog 24 (.pointer (some ⟨w.heap.size, 2 + i * 7, none⟩)) (.agg v1) W = .ok .skip W' ∧ StepX w W' (setB (bodiesF f n i) (2 + i * 7) (moveB (bod (bodiesF f n i) (2 + i * 7)) (n i))) (n 0) (n 1) from fun W hb => by
        have hEW := hE.below hb
        refine ⟨_, storeR_mid (by rw [hv1]; exact hEW.st.there (by simp [bodL]; omega)) (by rw [hv1]; exact infoB) (by rw [hv1]; exact bodL_one _) rfl, ?_⟩
        rw [hv1]
        exact hEW.cellsG _ _ (hEW.st.setBody hlt _))
      have HBO := Lib.hid (moveB_ok hb (n i))
      clear hInv hb hE hni hlt hv2 hv1 hLb
      go_upto_region 6 with fail
      have hrow' : rowIn wr.drew w.heap.size (2 + i * 7) 7 = some Lb := by rw [rowIn_drew]; exact rowIn_of hrow HLb.out
      go_cut [] (fun wx => StepX w wx (setB (bodiesF f n i) (2 + i * 7) (moveB (bod (bodiesF f n i) (2 + i * 7)) (n i))) (n 0) (n 1))
      case first =>
        go_region_law (go_simp; go_at_call 107; refine (pM.out _).mono ?_; rintro e w3 ⟨rfl, h3⟩; obtain ⟨w4, hst, E4⟩ := st.out w3 ⟨h3.os, h3.tape, h3.output, h3.size, h3.block⟩)
        all_goals
          go_wp2_with fail
          go_meet
          exact E4
      case rest =>
      have HE5 := Lib.hid hcut
      clear hcut st pM hrow hrow' hiB cI
      go_upto_region 7 with fail
      clear HiV HoV
      obtain ⟨C5, LC5⟩ := let_of (setB (bodiesF f n i) (2 + i * 7) (moveB (bod (bodiesF f n i) (2 + i * 7)) (n i)))
      have E5 := HE5.out
      have hX := LC5.blk E5.st
      have hif5 := LC5.info
      have cI := CBX.out wc E5.inp i HL.out
      have pF := Lib.hid (fun W => rfire_any W C5 _ i (n i) LC5 HL.out (HN.out i HL.out) (by rw [setB_bod]; exact HBO.out))
      rw [← HES.out] at pF
      have HSZ := Lib.hid LC5.size
      have HL5 := Lib.hid LC5
      clear E5 LC5 HES HBO
      refine wp_region_still_tail 5 (by kernel_rfl) (by kernel_rfl) ?_
      simp only [List.take_succ_cons, List.take_zero, List.drop_succ_cons, List.drop_zero]
      refine wpStill_load_blk (by rfl) 31 _ (by rfl) w.heap.size (by rfl) _ C5 _ hX.drew Try.underlying31 (by rfl) hif5 ?_
      iterate 4 still_step
      refine wpStill_nil ?_
      change wpList _ _ _ _ _ (World.drew _)
      go_wp2_with fail
      refine (pF.out _).mono ?_
      rintro e w5 ⟨C6, LC6, rfl, h3⟩
      have h3' : Below wc.heap.size wc w5 := ⟨h3.os, h3.tape, h3.output, h3.size, h3.block⟩
      have E5 := HE5.out.below h3'
      have X5 := HL5.out.blk E5.st
      have hif6 := LC6.info
      have hone6 := LC6.one
      have hsz6 : C5.size = C6.size := by rw [HSZ.out]; exact LC6.size.symm
      have HC6 := Lib.hid LC6
      have HE6 := Lib.hid E5
      clear hX hif5 cI pF LC6 E5 h3 h3' HE5
      go_wp2_with (refine wpList_store_blk (by rfl) 31 _ _ (by rfl) w.heap.size C6 (by rfl) (by rfl) _ C5 X5 hif6 hsz6 hone6 ?_; intro W6 hd6 ht6)
      have E6 := HE6.out.touchG ht6 (HC6.out.sb hd6)
      have hlt := HL.out
      clear X5 hif6 hone6 hsz6 hd6 ht6 HL5 HSZ
      go_wp2_with fail
      go_roundw
      case rel => exact ⟨i + 1, by omega, by go_num, E6⟩
      case measure => simp [intOf]; omega
    · obtain rfl : i = 2 := by omega
      rw [show ((2 : Nat) : Int) = 2 from rfl]
      have HST := Lib.hid (step_eq f n)
      have HI2 := Lib.hid (HI.out.bodies n 2 (by omega))
      have HE2 := Lib.hid hE
      generalize bodiesF f n 2 = F0 at *
      clear hlt hi HI hE
      go_wp2_with fail
      go_loopw [6] (fun kv wr => ∃ k : Nat, k ≤ 8 ∧ kv = .int .i64 k ∧ StepX w wr (fliesF F0 n k) (n 0) (n 1)) (fun kv _ => 8 - (intOf kv).toNat)
      case atStart => exact ⟨0, by omega, rfl, HE2.out⟩
      case round =>
        clear HE2
        obtain ⟨k, hk, rfl, hE⟩ := hrel
        by_cases hlt : k < 8
        · have k1 : (0 : Int) ≤ (k : Int) := by omega
          have k2 : (k : Int) < 8 := by omega
          have con := hE.st.on hlt
          have hInv := HI2.out.flies n k hk
          have HES := Lib.hid (show fliesF F0 n (k + 1) = if fliesF F0 n k (16 + k * 6) = 0 then fliesF F0 n k else flyF (fliesF F0 n k) k n from rfl)
          by_cases hon : fliesF F0 n k (16 + k * 6) = 0
          · rw [onB_no hon] at con
            have HES2 := HES.out
            rw [if_pos hon] at HES2
            have HES3 := Lib.hid HES2
            have HE := Lib.hid hE
            clear HES HES2 hon hE hInv
            go_wp2_with fail
            go_roundw
            case rel => exact ⟨k + 1, by omega, by go_num, by rw [HES3.out]; exact HE.out⟩
            case measure => simp [intOf]; omega
          · rw [onB_yes hon] at con
            have HES2 := HES.out
            rw [if_neg hon] at HES2
            have HES3 := Lib.hid HES2
            have d0 := hE.inp.cell 0
            have d1 := hE.inp.cell 1
            obtain ⟨C5, LC5⟩ := let_of (fliesF F0 n k)
            have p1 := Lib.hid (rfly_any wr C5 _ _ _ k n LC5 hlt HN.out hInv (by omega) hon)
            unfold inV at p1
            have hS5 := LC5.blk hE.st
            have hif5 := LC5.info
            have HSZ := Lib.hid LC5.size
            have HS5 := Lib.hid LC5
            have HE := Lib.hid hE
            clear HES HES2 hon hE hInv LC5
            go_wp2_with (refine wpList_load_blk (by rfl) 31 _ (by rfl) w.heap.size (by rfl) _ C5 _ hS5 Try.underlying31 (by rfl) hif5 ?_)
            refine p1.out.mono ?_
            rintro e w3 ⟨C6, LC6, rfl, h3⟩
            have E3 := HE.out.below h3
            have X3 := HS5.out.blk E3.st
            have hif6 := LC6.info
            have hone6 := LC6.one
            have hsz6 : C5.size = C6.size := by rw [HSZ.out]; exact LC6.size.symm
            have HC6 := Lib.hid LC6
            have HE3 := Lib.hid E3
            clear hS5 hif5 d0 d1 p1 LC6 E3 h3
            go_wp2_with (refine wpList_store_blk (by rfl) 31 _ _ (by rfl) w.heap.size C6 (by rfl) (by rfl) _ C5 X3 hif6 hsz6 hone6 ?_; intro W6 hd6 ht6)
            have E6 := HE3.out.touchG ht6 (HC6.out.sb hd6)
            clear X3 hif6 hone6 hsz6 hd6 ht6
            go_wp2_with fail
            go_roundw
            case rel => exact ⟨k + 1, by omega, by go_num, by rw [HES3.out]; exact E6⟩
            case measure => simp [intOf]; omega
        · obtain rfl : k = 8 := by omega
          rw [← HST.out] at hE
          clear hlt hk CBX HN HI2 HST
          obtain ⟨C9, LC9⟩ := let_of (stepF f n)
          have hS9 := LC9.blk hE.st
          have R9 := hE.res
          have B9 := hE.lo
          have hzs : Try.zeroCells31.size = C9.size := by rw [LC9.size, ← stA_zero]; exact stA_size _
          have hif := LC9.info
          have hone := LC9.one
          have HC9 := Lib.hid LC9
          clear LC9 hE
          go_wp2_with (first | (refine wpList_load_blk (by rfl) 31 _ (by rfl) w.heap.size (by rfl) _ C9 _ hS9 Try.underlying31 (by rfl) hif ?_) | (refine wpList_store_blk (by rfl) 31 _ _ (by rfl) (w.heap.size + 1 + 1) C9 (by rfl) (by rfl) _ _ R9 hif hzs hone ?_; intro W6 hd6 ht6) | fail)
          refine bodyPost_ret (v := .agg C9) (results_blk Try.results79 _ _ (w.heap.size + 1 + 1) _ _ _ (by rfl) hd6 Try.underlying31 (by rfl) hif) rfl ⟨C9, HC9.out, rfl, ?_⟩
          exact B9.trans (ht6.below B9.size (fun k hk => by omega))
end Go.Proofs.Ytlhoffhagfhbcaa.Gm
namespace Go.Proofs.Ytlhoffhagfhbcaa.Gm
open Go.RowKit Go.Sort Go.Proofs.Ytlhoffhagfhbcaa.Num
set_option linter.all false

/-- What lies there while it is played: the state, the result. -/
structure PlayX (w W : World) (f : F) : Prop where
  st : SB W w.heap.size 31 f
  res : Blk W (w.heap.size + 1) 31 Try.zeroCells31
  lo : RowKit.Below w.heap.size w W
theorem PlayX.below {w W W' : World} {f : F} (h : PlayX w W f) (hb : RowKit.Below W.heap.size W W') : PlayX w W' f :=
  ⟨h.st.below hb h.st.lt, h.res.below hb h.res.lt, h.lo.trans (hb.mono h.lo.size)⟩
theorem PlayX.touchG {w W W' : World} {f f' : F} (h : PlayX w W f) (T : Touch (fun k => k = w.heap.size) W W') (hs : SB W' w.heap.size 31 f') : PlayX w W' f' :=
  ⟨hs, h.res.touch T (by omega), h.lo.trans (T.below h.lo.size (fun k hk => by omega))⟩

set_option maxRecDepth 100000 in
set_option maxHeartbeats 8000000 in
theorem rplay_any (w : World) (C : Array Value) (f : F) (fr sc : Int) (a : Option Addr) (c : Nat) (ls : List (Nat × Nat)) (LC : Let C f) (hr : InRow w a ls) (hI : Inv fr sc f) (hl : ls.length ≤ 281474976710656) (hsc : sc ≤ 281474976710656) (hfr : fr ≤ 281474976710656) (hfr0 : 0 ≤ fr) :
    Calls Try.prog 39 #[.agg C, .slice a ls.length c] w fun e w' => ∃ C', Let C' (playF f ls ls.length) ∧ e = .returned (.agg C') ∧ Below w.heap.size w w' := by
  obtain ⟨W1, hW1⟩ : ∃ W1, W1 = (w.alloc (.cells C 31)).alloc (.cells Try.zeroCells31 31) := ⟨_, rfl⟩
  have E1 : PlayX w W1 f := by
    refine ⟨?_, ?_, ?_⟩
    · rw [hW1]; exact (LC.sb (Blk.new w 31 C)).alloc _
    · rw [hW1]
      have := Blk.new (w.alloc (.cells C 31)) 31 Try.zeroCells31
      simpa using this
    · rw [hW1]; exact ((Below.refl _ w).alloc (Nat.le_refl _) _).alloc (by simp) _
  have HR := Lib.hid hr
  have HI := Lib.hid hI
  have HE1 := Lib.hid E1
  clear hr hI E1 LC
  go_enter Try.func39, Try.ntmps39
  go_upto_region 1 with fail
  rw [← hW1]
  clear hW1
  go_wp2_with fail
  go_loopw [5] (fun iv wr => ∃ k : Nat, k ≤ ls.length ∧ iv = .int .i64 k ∧ PlayX w wr (playF f ls k)) (fun iv _ => ls.length - (intOf iv).toNat)
  case atStart => exact ⟨0, by omega, rfl, HE1.out⟩
  case round =>
    clear HE1
    obtain ⟨k, hk, rfl, hE⟩ := hrel
    by_cases hlt : k < ls.length
    · obtain ⟨gb, ob, rfl, hgb, hcb⟩ := (HR.out.below hE.lo).2 (by omega)
      obtain ⟨c0, c1⟩ := hcb k hlt
      have i0 : (k : Int) < (ls.length : Int) := by omega
      have i1 : (0 : Int) ≤ (k : Int) := by omega
      have hInv := HI.out.play ls k
      have HE := Lib.hid (show playF f ls (k + 1) = stepF (playF f ls k) (inA ls k) from rfl)
      obtain ⟨C5, LC5⟩ := let_of (playF f ls k)
      have pS := Lib.hid (fun W => rstep_any W C5 (playF f ls k) _ _ (inA ls k) LC5 (inA_lt HR.out.1 k) hInv (by omega) (by omega) (by omega))
      rw [← HE.out] at pS
      unfold inV at pS
      have hX := LC5.blk hE.st
      have hif5 := LC5.info
      have HSZ := Lib.hid LC5.size
      have HL5 := Lib.hid LC5
      have HE5 := Lib.hid hE
      have HL := Lib.hid hlt
      clear hE LC5 hInv HE hcb hlt
      generalize inA ls k 0 = n0 at *
      generalize inA ls k 1 = n1 at *
      go_upto_region 4 with fail
      refine wp_region_still_tail 5 (by kernel_rfl) (by kernel_rfl) ?_
      simp only [List.take_succ_cons, List.take_zero, List.drop_succ_cons, List.drop_zero]
      refine wpStill_load_blk (by rfl) 31 _ (by rfl) w.heap.size (by rfl) _ C5 _ hX.drew Try.underlying31 (by rfl) hif5 ?_
      iterate 4 still_step
      refine wpStill_nil ?_
      change wpList _ _ _ _ _ (World.drew _)
      go_wp2_with fail
      refine (pS.out _).mono ?_
      rintro e w5 ⟨C6, LC6, rfl, h3⟩
      have h3' : Below wr.heap.size wr w5 := ⟨h3.os, h3.tape, h3.output, h3.size, h3.block⟩
      have E5 := HE5.out.below h3'
      have X5 := HL5.out.blk E5.st
      have hif6 := LC6.info
      have hone6 := LC6.one
      have hsz6 : C5.size = C6.size := by rw [HSZ.out]; exact LC6.size.symm
      have HC6 := Lib.hid LC6
      have HE6 := Lib.hid E5
      clear hX hif5 c0 c1 pS LC6 E5 h3 h3' HE5
      go_wp2_with (refine wpList_store_blk (by rfl) 31 _ _ (by rfl) w.heap.size C6 (by rfl) (by rfl) _ C5 X5 hif6 hsz6 hone6 ?_; intro W6 hd6 ht6)
      have E6 := HE6.out.touchG ht6 (HC6.out.sb hd6)
      have hlt := HL.out
      clear X5 hif6 hone6 hsz6 hd6 ht6 HL5 HSZ
      go_wp2_with fail
      go_roundw
      case rel => exact ⟨k + 1, by omega, by go_num, E6⟩
      case measure => simp [intOf]; omega
    · obtain rfl : k = ls.length := by omega
      clear hlt hk HI HR
      obtain ⟨C9, LC9⟩ := let_of (playF f ls ls.length)
      have hS9 := LC9.blk hE.st
      have R9 := hE.res
      have B9 := hE.lo
      have hzs : Try.zeroCells31.size = C9.size := by rw [LC9.size, ← stA_zero]; exact stA_size _
      have hif := LC9.info
      have hone := LC9.one
      have HC9 := Lib.hid LC9
      clear LC9 hE
      go_wp2_with (first | (refine wpList_load_blk (by rfl) 31 _ (by rfl) w.heap.size (by rfl) _ C9 _ hS9 Try.underlying31 (by rfl) hif ?_) | (refine wpList_store_blk (by rfl) 31 _ _ (by rfl) (w.heap.size + 1) C9 (by rfl) (by rfl) _ _ R9 hif hzs hone ?_; intro W6 hd6 ht6) | fail)
      refine bodyPost_ret (v := .agg C9) (results_blk Try.results39 _ _ (w.heap.size + 1) _ _ _ (by rfl) hd6 Try.underlying31 (by rfl) hif) rfl ⟨C9, HC9.out, rfl, ?_⟩
      exact B9.trans (ht6.below B9.size (fun k hk => by omega))
end Go.Proofs.Ytlhoffhagfhbcaa.Gm
