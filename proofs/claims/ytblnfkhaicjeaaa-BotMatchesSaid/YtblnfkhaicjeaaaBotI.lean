/-
  The program's Match.
-/
import Derived.Test.YtblnfkhaicjeaaaBotH
namespace Go.Proofs.Ytblnfkhaicjeaaa.Bot
open Go.RowKit Go.Sort Go.Proofs.Ytblnfkhaicjeaaa.Num Go.Proofs.Ytblnfkhaicjeaaa.Gm Go.Proofs.Ytblnfkhaicjeaaa.Byt
set_option linter.all false
attribute [local go_sem ↓] exec33 exec_st33
attribute [local go_sem] loadR_at cellsAt_drew

/-- What Match gives back. -/
def MatchPost (w : World) (f0 : F) (wa ba wb bb : Nat) (s t : Int) (K : Nat) (S : Nat → Prop) (e : Ending) (w' : World) : Prop :=
  ∃ v C, Let C (playF f0 (matL f0 wa ba wb bb s t K).1 K) ∧ e = .returned (.tuple #[v, .agg C]) ∧ On w' 48 2 v K (inC (matL f0 wa ba wb bb s t K).1) ∧ (∀ g, v.ownBlock = some g → w.heap.size ≤ g) ∧ Touch S w w'

theorem match_results {fn : Func} (hfn : fn.results = #[.tmp 8, .cell 9 33]) (tmps : Array Value) (W : World) (g : Nat) (C : Array Value) (v : Value) (h : Blk W g 33 C) (hC : (Try.prog.info? 33).map (·.size) = some C.size)
    (h8 : tmps.getD 8 undef = v) (h9 : tmps.getD 9 undef = .pointer (some ⟨g, 0, none⟩)) :
    (results fn tmps).run Try.prog W = .ok (.tuple #[v, .agg C]) W := by
  have e8 : tmps[8]?.getD undef = v := by simpa using h8
  have e9 : tmps[9]?.getD undef = .pointer (some ⟨g, 0, none⟩) := by simpa using h9
  have hl := run_loadVar_row (P := Try.prog) W g 33 33 C (0, 0) _ h Try.underlying33 rfl hC
  simp [results, hfn, e8, e9, asAddr, hl]

set_option maxRecDepth 100000 in
set_option maxHeartbeats 8000000 in
theorem match_any (w : World) (ga gb wa ba wb bb : Nat) (seed s t fr : Int) (K : Nat) (hK : (fr ≤ 0 ∧ K = 0) ∨ fr = K) (hK4 : K ≤ 400) (pa : PB w ga wa s ba) (pb : PB w gb wb t bb) (hne : ga ≠ gb)
    (hwa : wa < 2) (hba : ba ≤ 16) (hwb : wb < 2) (hbb : bb ≤ 16) (h0 : 0 ≤ seed) (h1 : seed < 4294967296) (hs : 0 ≤ s ∧ s < 4294967296) (ht : 0 ≤ t ∧ t < 4294967296) :
    Calls Try.prog 32 #[.int .u32 seed, .int .i64 fr, .pointer (some ⟨ga, 0, none⟩), .pointer (some ⟨gb, 0, none⟩)] w (MatchPost w (newF seed) wa ba wb bb s t K (fun k => k = ga ∨ k = gb)) := by
  obtain ⟨W1, hW1⟩ : ∃ W1, W1 = w.alloc (.cells Try.zeroCells33 33) := ⟨_, rfl⟩
  have hR : Blk W1 w.heap.size 33 Try.zeroCells33 := by rw [hW1]; exact Blk.new _ _ _
  have hB : Below w.heap.size w W1 := by rw [hW1]; exact (Below.refl _ w).alloc (Nat.le_refl _) _
  have hz : w.heap.size + 1 = W1.heap.size := by rw [hW1]; simp
  have pN := Lib.hid (fun W => new_any W seed h0 h1)
  have HI := Inv.new seed h0 h1
  obtain ⟨C0, LC0⟩ := let_of (newF seed)
  unfold stV at pN
  rw [← LC0.eq] at pN
  have hcs := LC0.size
  have pCl := Lib.hid (show ∀ W, Calls Try.prog 78 #[.int .i64 fr, .int .i64 0, .int .i64 4096] W fun e w' => e = .returned (.int .i64 K) ∧ W = w' from fun W => (clamp_any W fr 0 4096).mono fun e w' h => ⟨by rw [h.1]; congr 2; unfold clampV; omega, h.2⟩)
  have gal := Blk.lt pa
  have gbl := Blk.lt pb
  have hM0 := Lib.hid (show ∀ W C gs, Below W1.heap.size W1 W → W1.heap.size ≤ gs → Let C (newF seed) → Blk W gs 33 C → MX 61 w W gs w.heap.size ga gb wa ba wb bb s t C (.slice none 0 0) [] from fun W C gs hb hl hC hX => by
    have hb' := hB.trans (hb.mono hB.size)
    exact ⟨Blk.below pa hb' gal, Blk.below pb hb' gbl, hX, Blk.below hR hb (Blk.lt hR), On.nil _ _ _, Touch.of_below hb', hne, by omega, by omega, by omega, by omega, by omega, by omega, by omega, fun g hg => by simp [Value.ownBlock] at hg, by decide⟩)
  have HI' := Lib.hid HI
  have HZ := Lib.hid hz
  have HLC := Lib.hid LC0
  obtain ⟨f0, hf0⟩ : ∃ f0, f0 = newF seed := ⟨_, rfl⟩
  rw [← hf0] at HI' HLC hM0 ⊢
  have HP := Lib.hid hK
  have i1 : (K : Int) ≤ 400 := by omega
  clear hR hB hz HI LC0 pa pb hf0 hK gal gbl
  go_enter Try.func32, Try.ntmps32
  go_upto_region 1 with fail
  rw [← hW1]
  clear hW1
  go_wp2_with fail
  refine (pN.out _).mono ?_
  rintro e W2 ⟨rfl, b2⟩
  obtain ⟨W3, hrun, hX3, hT3⟩ := storeR_blk (ty := 33) (cells := C0) (Blk.new W2 33 Try.zeroCells33) HLC.out.info (by rw [HLC.out.size]; exact hz66) HLC.out.one
  have hz2 := b2.size
  have M3 := hM0.out W3 C0 W2.heap.size (b2.trans (((Below.refl _ W2).alloc (Nat.le_refl _) _).trans (hT3.below (by simp) (fun k hk => by omega)) |>.mono hz2)) hz2 HLC.out hX3
  have HM3 := Lib.hid M3
  go_upto_region 2 with fail
  clear hrun hX3 hT3 M3 hz2 b2 hM0 pN
  go_wp2_with fail
  refine (pCl.out _).mono ?_
  rintro e W4 ⟨rfl, rfl⟩
  clear pCl
  generalize W2.heap.size = gs at *
  go_wp2_with fail
  go_loopw [11, 17] (fun lv iv wr => ∃ k : Nat, k ≤ K ∧ iv = .int .i64 k ∧ ∃ C, Let C (playF f0 (matL f0 wa ba wb bb s t k).1 k) ∧ MX 61 w wr gs w.heap.size ga gb wa ba wb bb (matL f0 wa ba wb bb s t k).2.1 (matL f0 wa ba wb bb s t k).2.2 C lv (matL f0 wa ba wb bb s t k).1) (fun _ iv _ => K - (intOf iv).toNat)
  case atStart => exact ⟨0, by omega, rfl, C0, HLC.out, HM3.out⟩
  case round =>
    clear HM3 HLC
    obtain ⟨k, hk, rfl, C, LC, hM⟩ := hrel
    have k1 : (0 : Int) ≤ (k : Int) := by omega
    have hkK : (k : Int) ≤ (K : Int) := by omega
    by_cases hlt : k < K
    · have k2 : (k : Int) < (K : Int) := by omega
      have hin := matL_in f0 wa ba wb bb s t hs ht k
      have hln := matL_len f0 wa ba wb bb s t k
      have hbd := matL_lt f0 wa ba wb bb s t k
      have HNX := Lib.hid (show matL f0 wa ba wb bb s t (k + 1) = ((matL f0 wa ba wb bb s t k).1 ++ [(cN (playF f0 (matL f0 wa ba wb bb s t k).1 k) wa (matL f0 wa ba wb bb s t k).2.1 ba, cN (playF f0 (matL f0 wa ba wb bb s t k).1 k) wb (matL f0 wa ba wb bb s t k).2.2 bb)],
        cS (playF f0 (matL f0 wa ba wb bb s t k).1 k) wa (matL f0 wa ba wb bb s t k).2.1 ba, cS (playF f0 (matL f0 wa ba wb bb s t k).1 k) wb (matL f0 wa ba wb bb s t k).2.2 bb) from rfl)
      generalize (matL f0 wa ba wb bb s t k).2.1 = sk at *
      generalize (matL f0 wa ba wb bb s t k).2.2 = tk at *
      generalize (matL f0 wa ba wb bb s t k).1 = ls at *
      have hI := HI'.out.play ls k
      have hwf := hI.wf (by omega) (by omega) (by omega)
      have HPS := Lib.hid (fun x => play_snoc f0 ls x)
      rw [hln] at HPS
      have pC1 := Lib.hid (fun W (h : Blk W ga 61 #[.int .i64 wa, .int .u32 sk, .int .i64 ba]) => choose_any W ga wa ba sk C _ LC hwf h hwa hba hin.1.1 hin.1.2)
      have pC2 := Lib.hid (fun W (h : Blk W gb 61 #[.int .i64 wb, .int .u32 tk, .int .i64 bb]) => choose_any W gb wb bb tk C _ LC hwf h hwb hbb hin.2.1 hin.2.2)
      have q1 := (chooseN_mod (bod (playF f0 ls k) (2 + wa * 7)) (bod (playF f0 ls k) (2 + (1 - wa) * 7)) (dangerV (playF f0 ls k) wa) sk ba).2
      have q2 := (chooseN_mod (bod (playF f0 ls k) (2 + wb * 7)) (bod (playF f0 ls k) (2 + (1 - wb) * 7)) (dangerV (playF f0 ls k) wb) tk bb).2
      have HN1 := Lib.hid (show chooseN (bod (playF f0 ls k) (2 + wa * 7)) (bod (playF f0 ls k) (2 + (1 - wa) * 7)) (dangerV (playF f0 ls k) wa) sk ba = cN (playF f0 ls k) wa sk ba from rfl)
      have HN2 := Lib.hid (show chooseN (bod (playF f0 ls k) (2 + wb * 7)) (bod (playF f0 ls k) (2 + (1 - wb) * 7)) (dangerV (playF f0 ls k) wb) tk bb = cN (playF f0 ls k) wb tk bb from rfl)
      have HS1 := Lib.hid (show chooseS (dangerV (playF f0 ls k) wa) sk ba = cS (playF f0 ls k) wa sk ba from rfl)
      have HS2 := Lib.hid (show chooseS (dangerV (playF f0 ls k) wb) tk bb = cS (playF f0 ls k) wb tk bb from rfl)
      rw [HN1.out, HS1.out] at pC1
      rw [HN2.out, HS2.out] at pC2
      rw [HN1.out] at q1
      rw [HN2.out] at q2
      clear HN1 HN2 HS1 HS2
      generalize cN (playF f0 ls k) wa sk ba = N1 at *
      generalize cN (playF f0 ls k) wb tk bb = N2 at *
      generalize cS (playF f0 ls k) wa sk ba = sk' at *
      generalize cS (playF f0 ls k) wb tk bb = tk' at *
      have pS := Lib.hid (fun W => step_any W (playF f0 ls k) _ _ (fun i => if i = 0 then N1 else N2) (fun i hi => by split <;> assumption) hI (by omega) (by omega) (by omega))
      have HPS' := Lib.hid (HPS.out (N1, N2))
      have hLS := HPS'.out
      dsimp only at hLS
      rw [← hLS] at pS
      unfold stV inV at pS
      rw [← LC.eq] at pS
      simp only [if_true, if_neg (show ¬ (1 : Nat) = 0 by omega)] at pS
      clear hLS HPS HPS' hwf hI hin q1 q2
      obtain ⟨D, LD⟩ := let_of (playF f0 (ls ++ [(N1, N2)]) (k + 1))
      rw [← LD.eq] at pS
      have hsz := LC.size
      have hic := LC.info
      have cS0 : cellsAt wr.drew gs = C := cellsAt_blk hM.st
      have lta := Blk.lt hM.pa
      have ltb := Blk.lt hM.pb
      have lts := Blk.lt hM.st
      have ltr := Blk.lt hM.r
      have ltw := hM.tc.size
      have ltv := On.lt hM.on
      have MA := Lib.hid (hM.below ((Below.refl _ wr).drew))
      have MZ := Lib.hid (hM.below ((Below.refl _ wr).alloc (Nat.le_refl _) (.cells #[.int .u16 0, .int .u16 0] 48)).drew)
      have HFIN := Lib.hid (show ∀ W6 gz, MX 61 w W6 gs w.heap.size ga gb wa ba wb bb sk' tk' C u11 ls → wr.heap.size ≤ gz → Blk W6 gz 48 #[.int .u16 0, .int .u16 0] → (∃ gy, (Value.pointer (some ⟨gz, 0, none⟩)) = .pointer (some ⟨gy, 0, none⟩) ∧ Blk ((W6.setCell ⟨gz, 0, none⟩ (.int .u16 N1)).setCell ⟨gz, 1, none⟩ (.int .u16 N2)) gy 48 #[.int .u16 N1, .int .u16 N2] ∧ MX 61 w ((W6.setCell ⟨gz, 0, none⟩ (.int .u16 N1)).setCell ⟨gz, 1, none⟩ (.int .u16 N2)) gs w.heap.size ga gb wa ba wb bb sk' tk' C u11 ls ∧ wr.heap.size ≤ gy) from fun W6 gz h hle hz => ⟨gz, rfl, Blk.set_ (Blk.set_ hz 0 _) 1 _, h.tz (gz := gz) (by omega) (by omega) (by omega) (by omega) (by omega) (fun e => by have := ltv gz e; omega) (Touch.setCell (S := fun k => k = gz) (p := ⟨gz, 1, none⟩) (Touch.setCell (S := fun k => k = gz) (p := ⟨gz, 0, none⟩) (Touch.refl _ _) (.inl rfl) _) (.inl rfl) _), hle⟩)
      have HFIN2 := Lib.hid (show ∀ W6, MX 61 w W6 gs w.heap.size ga gb wa ba wb bb sk' tk' C u11 ls → wr.heap.size ≤ W6.heap.size → (∃ gz, (Value.pointer (some ⟨W6.heap.size, 0, none⟩)) = .pointer (some ⟨gz, 0, none⟩) ∧ Blk (W6.alloc (.cells #[.int .u16 N1, .int .u16 N2] 48)) gz 48 #[.int .u16 N1, .int .u16 N2] ∧ MX 61 w (W6.alloc (.cells #[.int .u16 N1, .int .u16 N2] 48)) gs w.heap.size ga gb wa ba wb bb sk' tk' C u11 ls ∧ wr.heap.size ≤ gz) from fun W6 h hle => ⟨_, rfl, Blk.new W6 _ _, h.below ((Below.refl _ W6).alloc (Nat.le_refl _) _), hle⟩)
      have HV := Lib.hid (⟨lta, ltb, lts, ltr, ltw, ltv⟩ : ga < wr.heap.size ∧ gb < wr.heap.size ∧ gs < wr.heap.size ∧ w.heap.size < wr.heap.size ∧ w.heap.size ≤ wr.heap.size ∧ (∀ g, u11.ownBlock = some g → g < wr.heap.size))
      have HLT := Lib.hid hlt
      have HLD := Lib.hid LD
      have HLC := Lib.hid LC
      have HLN := Lib.hid hln
      have ZB := Lib.hid (Blk.drew (Blk.new wr 48 #[.int .u16 0, .int .u16 0]))
      have neA : ga ≠ wr.heap.size := by omega
      have neB : gb ≠ wr.heap.size := by omega
      have neS : gs ≠ wr.heap.size := by omega
      clear hM lta ltb lts ltr ltw ltv LD LC hlt hln hbd
      go_upto_region 5 with fail
      go_cut [12] (fun v12 wx => ∃ gz, v12 = .pointer (some ⟨gz, 0, none⟩) ∧ Blk wx gz 48 #[.int .u16 N1, .int .u16 N2] ∧ MX 61 w wx gs w.heap.size ga gb wa ba wb bb sk' tk' C u11 ls ∧ wr.heap.size ≤ gz)
      case first =>
        clear pS HNX HLD
        go_region_held3 (fun w' => cellsAt w' gs = C) (first | with_reducible exact cS0 | with_reducible exact cellsAt_blk MZ.out.st | with_reducible exact cellsAt_blk M5.st | with_reducible exact cellsAt_blk (Blk.alloc M5.st _) | with_reducible exact cellsAt_blk M6.st | with_reducible exact cellsAt_blk (Blk.alloc M6.st _) | with_reducible exact cellsAt_blk (Blk.far (Blk.far M6.st neS _) neS _) | with_reducible exact cellsAt_blk (Blk.far (Blk.far M6.st (Nat.ne_of_lt (Blk.lt M5.st)) _) (Nat.ne_of_lt (Blk.lt M5.st)) _) | fail)
          (first
            | (go_at_call 31; (with_reducible refine (pC1.out _ MA.out.pa).mono ?_); rintro e W5 ⟨rfl, p5, t5⟩; have M5 := MA.out.ta p5 t5)
            | (go_at_call 31; (with_reducible refine (pC1.out _ MZ.out.pa).mono ?_); rintro e W5 ⟨rfl, p5, t5⟩; have M5 := MZ.out.ta p5 t5; have Z5 := Blk.touch ZB.out t5 neA.symm)
            | (go_at_call 31; (with_reducible refine (pC2.out _ M5.pb).mono ?_); rintro e W6 ⟨rfl, p6, t6⟩; have M6 := M5.tb p6 t6; have Z6 := Blk.touch Z5 t6 neB.symm; have hz5 : wr.heap.size ≤ wr.heap.size := Nat.le_refl _; have z0 := Blk.cell Z6 0; have z1 := Blk.cell Z6 1; have f0 := Blk.frozen Z6 0; have f1 := Blk.frozen Z6 1)
            | (go_at_call 31; (with_reducible refine (pC2.out _ M5.pb).mono ?_); rintro e W6 ⟨rfl, p6, t6⟩; have M6 := M5.tb p6 t6; have hz5 : wr.heap.size ≤ W6.heap.size := Nat.le_trans t5.size t6.size)
            | (go_at_call 31; (with_reducible refine (pC2.out _ (M5.below ((Below.refl _ W5).alloc (Nat.le_refl _) (.cells #[.int .u16 0, .int .u16 0] 48))).pb).mono ?_); rintro e W6 ⟨rfl, p6, t6⟩; have M6 := (M5.below ((Below.refl _ W5).alloc (Nat.le_refl _) (.cells #[.int .u16 0, .int .u16 0] 48))).tb p6 t6; have Z6 := Blk.touch (Blk.new W5 48 #[.int .u16 0, .int .u16 0]) t6 (Nat.ne_of_gt (Blk.lt M5.pb)); have hz5 : wr.heap.size ≤ W5.heap.size := t5.size; have z0 := Blk.cell Z6 0; have z1 := Blk.cell Z6 1; have f0 := Blk.frozen Z6 0; have f1 := Blk.frozen Z6 1)
            | fail "no arm")
        all_goals
          go_wp2_with fail
          go_meet
          first
            | exact HFIN2.out _ M6 hz5
            | exact HFIN.out _ _ M6 hz5 Z6
      case rest =>
        obtain ⟨gz, rfl, hZ, hM6, hgz⟩ := hcut
        have HN := HV.out.2.2.2.2.2
        have hZv : u11.ownBlock ≠ some gz := fun e => by have := HN gz e; omega
        have z0 := Blk.cell hZ 0
        have z1 := Blk.cell hZ 1
        have hM7 := hM6.below ((Below.refl _ wc).alloc (Nat.le_refl _) (.cells #[.int .u16 N1, .int .u16 N2] 48))
        have hZ7 := Blk.alloc hZ (.cells #[.int .u16 N1, .int .u16 N2] 48)
        have SRC : Src (wc.alloc (.cells #[.int .u16 N1, .int .u16 N2] 48)) (some ⟨wc.heap.size, 0, none⟩) 1 [.int .u16 N1, .int .u16 N2] := by
          have := src_new wc 48 1 [.int .u16 N1, .int .u16 N2]
          simpa using this
        obtain ⟨i0, hi0, hzo, hzi, hzb⟩ := info_parts info48
        have hlk := HLN.out
        have HM7 := Lib.hid hM7
        have HZ7 := Lib.hid hZ7
        have HSRC := Lib.hid SRC
        have HZV := Lib.hid hZv
        have h63 : ls.length + 1 ≤ maxLen := by simp only [maxLen]; omega
        have hby : (ls.length + 1) * 4 ≤ 140737488355328 := by omega
        clear hZ hM6 hM7 hZ7 SRC hZv hgz HN MA MZ HFIN HFIN2 ZB neA neB neS cS0 hlk pC1 pC2
        go_upto_region 7 with (first | (at_builtin; refine wpList_append_on _ (by rfl) _ _ 23 (by rfl) 48 i0 _ 2 4 Try.underlying23 hi0 hzo hzi hzb (by rfl) (by omega) _ _ _ (by rfl) HM7.out.on (some ⟨wc.heap.size, 0, none⟩) 1 1 [.int .u16 N1, .int .u16 N2] (by rfl) (by rfl) HSRC.out (by intro u hu; simp at hu; rcases hu with rfl | rfl <;> rfl) h63 hby ?_; intro v' w' hon hg hv') | fail)
        have hon' : On w' 48 2 v' (ls ++ [(N1, N2)]).length (inC (ls ++ [(N1, N2)])) := by
          rw [inC_app, List.length_append]
          exact hon
        have M8 := HM7.out.app hon' hg hv'
        have Z8 := Blk.grown HZ7.out hg (fun e => HZV.out e.symm)
        have z0 := Blk.cell Z8 0
        have z1 := Blk.cell Z8 1
        have HM8 := Lib.hid M8
        have hst := M8.st
        clear hon hon' hg hv' M8 Z8 HM7 HZ7 HSRC HZV h63 hby hzo hzi hzb hi0
        go_wp2_with (first | (refine wpList_load_blk (by rfl) 33 _ (by rfl) gs (by rfl) _ C _ hst Try.underlying33 (by rfl) hic ?_) | fail)
        refine (pS.out _).mono ?_
        rintro e w9 ⟨rfl, b9⟩
        have M9 := HM8.out.below b9
        have X9 := M9.st
        have hif := HLD.out.info
        have hone := HLD.out.one
        have hcd : C.size = D.size := by rw [hsz, HLD.out.size]
        have HM9 := Lib.hid M9
        clear hst z0 z1 HM8 b9 pS M9
        go_wp2_with (first | (refine wpList_store_blk (by rfl) 33 _ _ (by rfl) gs D (by rfl) (by rfl) _ C X9 hif hcd hone ?_; intro W6 hd6 ht6) | fail)
        have M10 := HM9.out.ts hd6 ht6
        have hlt := HLT.out
        clear X9 hif hone hcd hd6 ht6 HM9
        go_wp2_with fail
        go_roundw
        case rel => exact ⟨k + 1, by omega, by go_num, D, by rw [HNX.out]; exact HLD.out, by rw [HNX.out]; exact M10⟩
        case measure => simp [intOf]; omega
    · obtain rfl : k = K := by omega
      have hln := matL_len f0 wa ba wb bb s t k
      have hon := hM.on
      rw [hln] at hon
      have HON := Lib.hid hon
      have HLC := Lib.hid LC
      have hsz := LC.size
      have cS0 : cellsAt wr.drew gs = C := cellsAt_blk hM.st
      obtain ⟨W9, hst9, hX9, hT9⟩ := storeR_blk (ty := 33) (cells := C) hM.r.drew LC.info (by rw [LC.size]; exact hz66) LC.one
      have HM := Lib.hid hM
      have HX9 := Lib.hid hX9
      have HT9 := Lib.hid hT9
      have hfv := HM.out.fv
      clear hlt hM LC hon hln hX9 hT9
      go_upto_region 9 with fail
      go_region_law (fail)
      all_goals clear hst9 cS0
      all_goals go_wp2_with fail
      all_goals
        refine bodyPost_ret (v := .tuple #[_, .agg C]) (match_results Try.results32 _ _ w.heap.size C _ (by exact HX9.out) HLC.out.info (by rfl) (by rfl)) rfl ⟨_, C, HLC.out, rfl, On.touch (On.drew HON.out) HT9.out (on_ne HM.out.on HM.out.r (by decide)), hfv, HM.out.tc.trans (Touch.trans ((Touch.refl (fun k => k = w.heap.size) wr).drew) HT9.out (fun k hk => .inl hk)) (fun k hk => .inr (by omega))⟩
end Go.Proofs.Ytblnfkhaicjeaaa.Bot
