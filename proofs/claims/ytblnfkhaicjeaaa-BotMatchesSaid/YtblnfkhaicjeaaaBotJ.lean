/-
  The document's Match.
-/
import Derived.Test.YtblnfkhaicjeaaaBotI
import Derived.Test.YtblnfkhaicjeaaaRplay
namespace Go.Proofs.Ytblnfkhaicjeaaa.Bot
open Go.RowKit Go.Sort Go.Proofs.Ytblnfkhaicjeaaa.Num Go.Proofs.Ytblnfkhaicjeaaa.Gm Go.Proofs.Ytblnfkhaicjeaaa.Byt
set_option linter.all false
attribute [local go_sem ↓] exec33 exec_st33
attribute [local go_sem] loadR_at cellsAt_drew

set_option maxRecDepth 100000 in
set_option maxHeartbeats 8000000 in
theorem rmatch_any (w : World) (wa ba wb bb : Nat) (seed s t fr : Int) (K : Nat) (hK : (fr ≤ 0 ∧ K = 0) ∨ fr = K) (hK4 : K ≤ 400)
    (hwa : wa < 2) (hba : ba ≤ 16) (hwb : wb < 2) (hbb : bb ≤ 16) (h0 : 0 ≤ seed) (h1 : seed < 4294967296) (hs : 0 ≤ s ∧ s < 4294967296) (ht : 0 ≤ t ∧ t < 4294967296) :
    Calls Try.prog 33 #[.int .u32 seed, .int .i64 fr, .agg #[.int .i64 wa, .int .u32 s, .int .i64 ba], .agg #[.int .i64 wb, .int .u32 t, .int .i64 bb]] w (MatchPost w (newF seed) wa ba wb bb s t K (fun _ => False)) := by
  obtain ⟨W1, hW1⟩ : ∃ W1, W1 = ((w.alloc (.cells #[.int .i64 wa, .int .u32 s, .int .i64 ba] 57)).alloc (.cells #[.int .i64 wb, .int .u32 t, .int .i64 bb] 57)).alloc (.cells Try.zeroCells33 33) := ⟨_, rfl⟩
  have pa : Blk W1 w.heap.size 57 #[.int .i64 wa, .int .u32 s, .int .i64 ba] := by rw [hW1]; exact ((Blk.new w _ _).alloc _).alloc _
  have pb : Blk W1 (w.heap.size + 1) 57 #[.int .i64 wb, .int .u32 t, .int .i64 bb] := by
    rw [hW1]
    have := (Blk.new (w.alloc (.cells #[.int .i64 wa, .int .u32 s, .int .i64 ba] 57)) 57 #[.int .i64 wb, .int .u32 t, .int .i64 bb]).alloc (.cells Try.zeroCells33 33)
    simpa using this
  have hR : Blk W1 (w.heap.size + 1 + 1) 33 Try.zeroCells33 := by
    rw [hW1]
    have := Blk.new ((w.alloc (.cells #[.int .i64 wa, .int .u32 s, .int .i64 ba] 57)).alloc (.cells #[.int .i64 wb, .int .u32 t, .int .i64 bb] 57)) 33 Try.zeroCells33
    simpa using this
  have hB : Below w.heap.size w W1 := by rw [hW1]; exact (((Below.refl _ w).alloc (Nat.le_refl _) _).alloc (by simp) _).alloc (by simp; omega) _
  have hz : w.heap.size + 1 + 1 + 1 = W1.heap.size := by rw [hW1]; simp
  have pN := Lib.hid (fun W => rnew_any W seed h0 h1)
  have HI := Inv.new seed h0 h1
  obtain ⟨C0, LC0⟩ := let_of (newF seed)
  unfold stV at pN
  rw [← LC0.eq] at pN
  have hcs := LC0.size
  have gal := Blk.lt pa
  have gbl := Blk.lt pb
  have hM0 := Lib.hid (show ∀ W C gs, Below W1.heap.size W1 W → W1.heap.size ≤ gs → Let C (newF seed) → Blk W gs 33 C → MX 57 w W gs (w.heap.size + 1 + 1) w.heap.size (w.heap.size + 1) wa ba wb bb s t C (.slice none 0 0) [] from fun W C gs hb hl hC hX => by
    have hb' := hB.trans (hb.mono hB.size)
    exact ⟨Blk.below pa hb gal, Blk.below pb hb gbl, hX, Blk.below hR hb (Blk.lt hR), On.nil _ _ _, Touch.of_below hb', by omega, by omega, by omega, by omega, by omega, by omega, by omega, by omega, fun g hg => by simp [Value.ownBlock] at hg, by decide⟩)
  have HI' := Lib.hid HI
  have HZ := Lib.hid hz
  have HLC := Lib.hid LC0
  obtain ⟨f0, hf0⟩ : ∃ f0, f0 = newF seed := ⟨_, rfl⟩
  rw [← hf0] at HI' HLC hM0 ⊢
  have HP := Lib.hid hK
  have i1 : (K : Int) ≤ 400 := by omega
  clear hR hB hz HI LC0 pa pb hf0 hK gal gbl
  go_enter Try.func33, Try.ntmps33
  go_upto_region 1 with fail
  rw [← hW1]
  clear hW1
  go_wp2_with fail
  refine (pN.out _).mono ?_
  rintro e W2 ⟨rfl, b2⟩
  obtain ⟨W3, hrun, hX3, hT3⟩ := storeR_blk (ty := 33) (cells := C0) (Blk.new W2 33 Try.zeroCells33) HLC.out.info (by rw [HLC.out.size]; exact hz66) HLC.out.one
  have hz2 := b2.size
  have M3 := hM0.out W3 C0 W2.heap.size (b2.trans (((Below.refl _ W2).alloc (Nat.le_refl _) _).trans (hT3.below (by simp) (fun k hk => by omega)) |>.mono hz2)) hz2 HLC.out hX3
  have HM3 := Lib.hid M3
  go_upto_region 2 with fail
  clear hrun hX3 hT3 M3 hz2 b2 hM0 pN
  generalize W2.heap.size = gs at *
  go_wp2_with fail
  go_loopw [11, 12] (fun lv iv wr => ∃ k : Nat, k ≤ K ∧ iv = .int .i64 k ∧ ∃ C, Let C (playF f0 (matL f0 wa ba wb bb s t k).1 k) ∧ MX 57 w wr gs (w.heap.size + 1 + 1) w.heap.size (w.heap.size + 1) wa ba wb bb (matL f0 wa ba wb bb s t k).2.1 (matL f0 wa ba wb bb s t k).2.2 C lv (matL f0 wa ba wb bb s t k).1) (fun _ iv _ => K - (intOf iv).toNat)
  case atStart => exact ⟨0, by omega, rfl, C0, HLC.out, HM3.out⟩
  case round =>
    clear HM3 HLC
    obtain ⟨k, hk, rfl, C, LC, hM⟩ := hrel
    have k1 : (0 : Int) ≤ (k : Int) := by omega
    have hkK : (k : Int) ≤ (K : Int) := by omega
    by_cases hlt : k < K
    · have k2 : (k : Int) < fr := by have := HP.out; omega
      have k3 : (k : Int) < 4096 := by omega
      have hin := matL_in f0 wa ba wb bb s t hs ht k
      have hln := matL_len f0 wa ba wb bb s t k
      have hbd := matL_lt f0 wa ba wb bb s t k
      have HNX := Lib.hid (show matL f0 wa ba wb bb s t (k + 1) = ((matL f0 wa ba wb bb s t k).1 ++ [(cN (playF f0 (matL f0 wa ba wb bb s t k).1 k) wa (matL f0 wa ba wb bb s t k).2.1 ba, cN (playF f0 (matL f0 wa ba wb bb s t k).1 k) wb (matL f0 wa ba wb bb s t k).2.2 bb)],
        cS (playF f0 (matL f0 wa ba wb bb s t k).1 k) wa (matL f0 wa ba wb bb s t k).2.1 ba, cS (playF f0 (matL f0 wa ba wb bb s t k).1 k) wb (matL f0 wa ba wb bb s t k).2.2 bb) from rfl)
      generalize (matL f0 wa ba wb bb s t k).2.1 = sk at *
      generalize (matL f0 wa ba wb bb s t k).2.2 = tk at *
      generalize (matL f0 wa ba wb bb s t k).1 = ls at *
      have hI := HI'.out.play ls k
      have hwf := hI.wf (by omega) (by omega) (by omega)
      have HPS := Lib.hid (fun x => play_snoc f0 ls x)
      rw [hln] at HPS
      have pC1 := Lib.hid (fun W => rchoose_any W wa ba sk C _ LC hwf hwa hba hin.1.1 hin.1.2)
      have pC2 := Lib.hid (fun W => rchoose_any W wb bb tk C _ LC hwf hwb hbb hin.2.1 hin.2.2)
      unfold botV at pC1 pC2
      have q1 := (chooseN_mod (bod (playF f0 ls k) (2 + wa * 7)) (bod (playF f0 ls k) (2 + (1 - wa) * 7)) (dangerV (playF f0 ls k) wa) sk ba).2
      have q2 := (chooseN_mod (bod (playF f0 ls k) (2 + wb * 7)) (bod (playF f0 ls k) (2 + (1 - wb) * 7)) (dangerV (playF f0 ls k) wb) tk bb).2
      have HN1 := Lib.hid (show chooseN (bod (playF f0 ls k) (2 + wa * 7)) (bod (playF f0 ls k) (2 + (1 - wa) * 7)) (dangerV (playF f0 ls k) wa) sk ba = cN (playF f0 ls k) wa sk ba from rfl)
      have HN2 := Lib.hid (show chooseN (bod (playF f0 ls k) (2 + wb * 7)) (bod (playF f0 ls k) (2 + (1 - wb) * 7)) (dangerV (playF f0 ls k) wb) tk bb = cN (playF f0 ls k) wb tk bb from rfl)
      have HS1 := Lib.hid (show chooseS (dangerV (playF f0 ls k) wa) sk ba = cS (playF f0 ls k) wa sk ba from rfl)
      have HS2 := Lib.hid (show chooseS (dangerV (playF f0 ls k) wb) tk bb = cS (playF f0 ls k) wb tk bb from rfl)
      rw [HN1.out, HS1.out] at pC1
      rw [HN2.out, HS2.out] at pC2
      rw [HN1.out] at q1
      rw [HN2.out] at q2
      clear HN1 HN2 HS1 HS2
      generalize cN (playF f0 ls k) wa sk ba = N1 at *
      generalize cN (playF f0 ls k) wb tk bb = N2 at *
      generalize cS (playF f0 ls k) wa sk ba = sk' at *
      generalize cS (playF f0 ls k) wb tk bb = tk' at *
      have pS := Lib.hid (fun W => rstep_any W C (playF f0 ls k) _ _ (fun i => if i = 0 then N1 else N2) LC (fun i hi => by split <;> assumption) hI (by omega) (by omega) (by omega))
      have HPS' := Lib.hid (HPS.out (N1, N2))
      have hLS := HPS'.out
      dsimp only at hLS
      rw [← hLS] at pS
      unfold inV at pS
      simp only [if_true, if_neg (show ¬ (1 : Nat) = 0 by omega)] at pS
      clear hLS HPS HPS' hwf hI hin q1 q2
      have hsz := LC.size
      have hic := LC.info
      have HLC := Lib.hid LC
      have HLT := Lib.hid hlt
      have HLN := Lib.hid hln
      have lta := Blk.lt hM.pa
      have ltb := Blk.lt hM.pb
      have lts := Blk.lt hM.st
      have ltr := Blk.lt hM.r
      have ltw := hM.tc.size
      have ltv := On.lt hM.on
      have M0 := hM.below ((Below.refl _ wr).alloc (Nat.le_refl _) (.cells #[.int .u16 0, .int .u16 0] 48))
      have Z0 := Blk.new wr 48 #[.int .u16 0, .int .u16 0]
      have HGZ := Lib.hid (⟨by omega, by omega, by omega, by omega, fun e => by have := ltv _ e; omega, ltw⟩ : w.heap.size ≠ wr.heap.size ∧ (w.heap.size + 1) ≠ wr.heap.size ∧ gs ≠ wr.heap.size ∧ (w.heap.size + 1 + 1) ≠ wr.heap.size ∧ u11.ownBlock ≠ some wr.heap.size ∧ w.heap.size ≤ wr.heap.size)
      clear hM lta ltb lts ltr ltw ltv LC hlt hln hbd
      go_upto_region 7 with fail
      generalize wr.alloc (.cells #[.int .u16 0, .int .u16 0] 48) = W0 at *
      generalize wr.heap.size = gz at *
      have hp := M0.pa
      have hst := M0.st
      have HM0 := Lib.hid M0
      have HZ0 := Lib.hid Z0
      clear M0 Z0
      go_wp2_with (first | (refine wpList_load_blk (by rfl) 57 _ (by rfl) w.heap.size (by rfl) _ #[.int .i64 wa, .int .u32 sk, .int .i64 ba] _ hp Try.underlying57 (by rfl) ib57 ?_) | (refine wpList_load_blk (by rfl) 33 _ (by rfl) gs (by rfl) _ C _ hst Try.underlying33 (by rfl) hic ?_) | fail)
      refine (pC1.out _).mono ?_
      rintro e W5 ⟨rfl, b5⟩
      have M5 := HM0.out.below b5
      have Z5 := Blk.below HZ0.out b5 (Blk.lt HZ0.out)
      have hp := M5.pa
      have HM5 := Lib.hid M5
      have HZ5 := Lib.hid Z5
      clear hst b5 M5 Z5 HM0 HZ0 pC1
      go_upto_region 8 with (first | (refine wpList_store_blk (by rfl) 57 _ _ (by rfl) w.heap.size #[.int .i64 wa, .int .u32 sk', .int .i64 ba] (by rfl) (by rfl) _ _ hp ib57 rfl (by simp [Value.oneCell']) ?_; intro W6 hd6 ht6; have Z6 : Blk W6 gz 48 #[.int .u16 0, .int .u16 0] := Blk.touch HZ5.out ht6 (fun e => HGZ.out.1 e.symm); have z0 := Blk.cell Z6 0; have fz0 := Blk.frozen Z6 0; have M6 := HM5.out.ta hd6 ht6) | fail)
      have Z7 : Blk (W6.setCell ⟨gz, 0, none⟩ (.int .u16 N1)) gz 48 #[.int .u16 N1, .int .u16 0] := Blk.set_ Z6 0 _
      have M7 := M6.tz (gz := gz) (HGZ.out.2.2.2.2.2) (HGZ.out.1) (HGZ.out.2.1) (HGZ.out.2.2.1) (HGZ.out.2.2.2.1) (HGZ.out.2.2.2.2.1) (Touch.setCell (S := fun k => k = gz) (p := ⟨gz, 0, none⟩) (Touch.refl _ W6) (.inl rfl) (.int .u16 N1))
      clear z0 fz0 M6 Z6 hp hd6 ht6 HM5 HZ5
      generalize W6.setCell ⟨gz, 0, none⟩ (.int .u16 N1) = W7 at *
      have M0 := M7
      have Z0 := Z7
      clear M7 Z7
      have hp := M0.pb
      have hst := M0.st
      have HM0 := Lib.hid M0
      have HZ0 := Lib.hid Z0
      clear M0 Z0
      go_wp2_with (first | (refine wpList_load_blk (by rfl) 57 _ (by rfl) (w.heap.size + 1) (by rfl) _ #[.int .i64 wb, .int .u32 tk, .int .i64 bb] _ hp Try.underlying57 (by rfl) ib57 ?_) | (refine wpList_load_blk (by rfl) 33 _ (by rfl) gs (by rfl) _ C _ hst Try.underlying33 (by rfl) hic ?_) | fail)
      refine (pC2.out _).mono ?_
      rintro e W5 ⟨rfl, b5⟩
      have M5 := HM0.out.below b5
      have Z5 := Blk.below HZ0.out b5 (Blk.lt HZ0.out)
      have hp := M5.pb
      have HM5 := Lib.hid M5
      have HZ5 := Lib.hid Z5
      clear hst b5 M5 Z5 HM0 HZ0 pC2
      go_upto_region 9 with (first | (refine wpList_store_blk (by rfl) 57 _ _ (by rfl) (w.heap.size + 1) #[.int .i64 wb, .int .u32 tk', .int .i64 bb] (by rfl) (by rfl) _ _ hp ib57 rfl (by simp [Value.oneCell']) ?_; intro W6 hd6 ht6; have Z6 : Blk W6 gz 48 #[.int .u16 N1, .int .u16 0] := Blk.touch HZ5.out ht6 (fun e => HGZ.out.2.1 e.symm); have z0 := Blk.cell Z6 1; have fz0 := Blk.frozen Z6 1; have M6 := HM5.out.tb hd6 ht6) | fail)
      have Z7 : Blk (W6.setCell ⟨gz, 1, none⟩ (.int .u16 N2)) gz 48 #[.int .u16 N1, .int .u16 N2] := Blk.set_ Z6 1 _
      have M7 := M6.tz (gz := gz) (HGZ.out.2.2.2.2.2) (HGZ.out.1) (HGZ.out.2.1) (HGZ.out.2.2.1) (HGZ.out.2.2.2.1) (HGZ.out.2.2.2.2.1) (Touch.setCell (S := fun k => k = gz) (p := ⟨gz, 1, none⟩) (Touch.refl _ W6) (.inl rfl) (.int .u16 N2))
      clear z0 fz0 M6 Z6 hp hd6 ht6 HM5 HZ5
      generalize W6.setCell ⟨gz, 1, none⟩ (.int .u16 N2) = W7 at *
      have M0 := M7
      have Z0 := Z7
      clear M7 Z7
      have hZv : u11.ownBlock ≠ some gz := HGZ.out.2.2.2.2.1
      have z0 := Blk.cell Z0 0
      have z1 := Blk.cell Z0 1
      have hM7 := M0.below ((Below.refl _ W7).alloc (Nat.le_refl _) (.cells #[.int .u16 N1, .int .u16 N2] 48))
      have hZ7 := Blk.alloc Z0 (.cells #[.int .u16 N1, .int .u16 N2] 48)
      have SRC : Src (W7.alloc (.cells #[.int .u16 N1, .int .u16 N2] 48)) (some ⟨W7.heap.size, 0, none⟩) 1 [.int .u16 N1, .int .u16 N2] := by
        have := src_new W7 48 1 [.int .u16 N1, .int .u16 N2]
        simpa using this
      obtain ⟨i0, hi0, hzo, hzi, hzb⟩ := info_parts info48
      have hlk := HLN.out
      have HM7 := Lib.hid hM7
      have HZ7 := Lib.hid hZ7
      have HSRC := Lib.hid SRC
      have HZV := Lib.hid hZv
      have h63 : ls.length + 1 ≤ maxLen := by simp only [maxLen]; omega
      have hby : (ls.length + 1) * 4 ≤ 140737488355328 := by omega
      clear Z0 M0 hM7 hZ7 SRC hZv hlk
      go_upto_region 10 with (first | (at_builtin; refine wpList_append_on _ (by rfl) _ _ 23 (by rfl) 48 i0 _ 2 4 Try.underlying23 hi0 hzo hzi hzb (by rfl) (by omega) _ _ _ (by rfl) HM7.out.on (some ⟨W7.heap.size, 0, none⟩) 1 1 [.int .u16 N1, .int .u16 N2] (by rfl) (by rfl) HSRC.out (by intro u hu; simp at hu; rcases hu with rfl | rfl <;> rfl) h63 hby ?_; intro v' w' hon hg hv') | fail)
      have hon' : On w' 48 2 v' (ls ++ [(N1, N2)]).length (inC (ls ++ [(N1, N2)])) := by
        rw [inC_app, List.length_append]
        exact hon
      have M8 := HM7.out.app hon' hg hv'
      have Z8 := Blk.grown HZ7.out hg (fun e => HZV.out e.symm)
      have z0 := Blk.cell Z8 0
      have z1 := Blk.cell Z8 1
      have HM8 := Lib.hid M8
      have hst := M8.st
      clear hon hon' hg hv' M8 Z8 HM7 HZ7 HSRC HZV h63 hby hzo hzi hzb hi0
      go_wp2_with (first | (refine wpList_load_blk (by rfl) 33 _ (by rfl) gs (by rfl) _ C _ hst Try.underlying33 (by rfl) hic ?_) | fail)
      refine (pS.out _).mono ?_
      rintro e w9 ⟨D, LD, rfl, b9⟩
      have HLD := Lib.hid LD
      have M9 := HM8.out.below b9
      have X9 := M9.st
      have hif := HLD.out.info
      have hone := HLD.out.one
      have hcd : C.size = D.size := by rw [hsz, HLD.out.size]
      have HM9 := Lib.hid M9
      clear hst z0 z1 HM8 b9 pS M9 LD
      go_wp2_with (first | (refine wpList_store_blk (by rfl) 33 _ _ (by rfl) gs D (by rfl) (by rfl) _ C X9 hif hcd hone ?_; intro W6 hd6 ht6) | fail)
      have M10 := HM9.out.ts hd6 ht6
      have hlt := HLT.out
      clear X9 hif hone hcd hd6 ht6 HM9
      go_wp2_with fail
      go_roundw
      case rel => exact ⟨k + 1, by omega, by go_num, D, by rw [HNX.out]; exact HLD.out, by rw [HNX.out]; exact M10⟩
      case measure => simp [intOf]; omega
    · obtain rfl : k = K := by omega
      have k2 : ¬ (k : Int) < fr := by have := HP.out; omega
      have hln := matL_len f0 wa ba wb bb s t k
      have hon := hM.on
      rw [hln] at hon
      have HON := Lib.hid hon
      have HLC := Lib.hid LC
      have hsz := LC.size
      have cS0 : cellsAt wr.drew gs = C := cellsAt_blk hM.st
      obtain ⟨W9, hst9, hX9, hT9⟩ := storeR_blk (ty := 33) (cells := C) hM.r.drew LC.info (by rw [LC.size]; exact hz66) LC.one
      have HM := Lib.hid hM
      have HX9 := Lib.hid hX9
      have HT9 := Lib.hid hT9
      have hfv := HM.out.fv
      clear hlt hM LC hon hln hX9 hT9
      go_upto_region 11 with fail
      go_region_law (fail)
      all_goals clear hst9 cS0
      all_goals go_wp2_with fail
      all_goals
        refine bodyPost_ret (v := .tuple #[_, .agg C]) (match_results Try.results33 _ _ (w.heap.size + 1 + 1) C _ (by exact HX9.out) HLC.out.info (by rfl) (by rfl)) rfl ⟨_, C, HLC.out, rfl, On.touch (On.drew HON.out) HT9.out (on_ne HM.out.on HM.out.r (by decide)), hfv, ?_⟩
        exact ((HM.out.tc.mono (S' := fun _ => False) (fun k hk => .inr (by omega))).trans (Touch.trans ((Touch.refl (fun k => k = w.heap.size + 1 + 1) wr).drew) HT9.out (fun k hk => .inl hk)) (fun k hk => .inr (by omega)))
end Go.Proofs.Ytblnfkhaicjeaaa.Bot
