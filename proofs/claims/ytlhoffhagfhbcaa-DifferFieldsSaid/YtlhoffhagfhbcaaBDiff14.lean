/-
  Texts joined: SpD, SpAw, Rnew, Rfire. No condition.
-/
import Derived.Test.YtlhoffhagfhbcaaBDiff13
namespace Go.Proofs.Ytlhoffhagfhbcaa.Spe
open Go.RowKit Go.Shelf Go.Proofs.Ytlhoffhagfhbcaa.Byt Go.Proofs.Ytlhoffhagfhbcaa.Gm Go.Proofs.Ytlhoffhagfhbcaa.RingE Go.Proofs.Ytlhoffhagfhbcaa.Crc
set_option linter.all false
attribute [local go_sem] Oper.semAt_some

set_option maxRecDepth 100000 in
set_option maxHeartbeats 8000000 in
theorem tbytes_any (w : World) (g : Nat) (hT : Crc.Rows w g 256) (sd : Int) (a : Option Addr) (cap : Nat) (ls : List (Nat × Nat)) (hrow : InRow w a ls) (hl : ls.length ≤ 16384) (hs0 : 0 ≤ sd) (hs1 : sd < 4294967296) :
    Calls Try.prog 45 #[.agg #[.int .u32 sd, .slice a ls.length cap], .pointer (some ⟨g, 0, none⟩)] w fun e w' => ∃ v, e = .returned (.tuple #[v, .int .i64 0]) ∧ On w' 5 1 v ((tapeB sd ls).length + 4) (ub (sealB (tapeB sd ls))) ∧ Below w.heap.size w w' ∧ (∀ g, v.ownBlock = some g → w.heap.size ≤ g) := by
  have h1 : ¬ (16384 : Int) < (ls.length : Int) := by omega
  refine calls_of_wp_marks 9 Try.func45 rfl ?_
  simp only [Try.ntmps45, List.size_toArray, List.length_cons, List.length_nil, Nat.reduceAdd, Nat.reduceSub, Array.replicate_succ, Array.replicate_zero, List.push_toArray, List.append_toArray, List.nil_append, List.cons_append]
  obtain ⟨W1, hW1⟩ : ∃ W1, W1 = w.alloc (.cells #[.int .u32 sd, .slice a ls.length cap] 49) := ⟨_, rfl⟩
  have hX : Blk W1 w.heap.size 49 #[.int .u32 sd, .slice a ls.length cap] := by rw [hW1]; exact Blk.new _ _ _
  have hB : Below w.heap.size w W1 := by rw [hW1]; exact (Below.refl _ w).alloc (Nat.le_refl _) _
  have hz1 : W1.heap.size = w.heap.size + 1 := by rw [hW1]; simp
  have q1 : W1.cell? ⟨w.heap.size, 1, none⟩ = some (.slice a ls.length cap) := hX.cell 1
  go_upto_region 1 with fail
  rw [← hW1]
  clear hW1
  go_upto_region 3 with fail
  have hG0 : Grow W1 (.slice none 0 0) [] W1 := ⟨Out.nil _, Below.refl _ _, fun k hk => by simp [Value.ownBlock] at hk⟩
  have q0 : W1.drew.cell? ⟨w.heap.size, 0, none⟩ = some (.int .u32 sd) := hX.cell 0
  have hXl := hX.lt
  have GA := hG0.drew
  have GB := (hG0.alloc (.cells #[.slice none 0 0] 61)).drew
  have TB : Blk (W1.alloc (.cells #[.slice none 0 0] 61)).drew W1.heap.size 61 #[.slice none 0 0] := (Blk.new W1 _ _).drew
  have p1' : ∀ W, Grow W1 (.slice none 0 0) [] W → Calls Try.prog 90 #[.slice none 0 0, .int .u16 16980] W fun e w' => ∃ a c, e = .returned (.slice a 2 c) ∧ Grow W1 (.slice a 2 c) (be2 16980) w' ∧ Touch (OwnB (.slice none 0 0)) W w' := fun W h => put16_grow W1 W _ [] 16980 h (by simp) (by omega) (by omega)
  have p2' : ∀ W v, Grow W1 v (be2 16980) W → Calls Try.prog 68 #[v, .int .u32 sd] W fun e w' => ∃ a c, e = .returned (.slice a 6 c) ∧ Grow W1 (.slice a 6 c) (be2 16980 ++ be4 sd) w' ∧ Touch (OwnB v) W w' := fun W v h => put32_grow W1 W v (be2 16980) sd h (by simp [be2]) hs0 hs1
  have p1 := Lib.hid p1'
  have p2 := Lib.hid p2'
  clear p1' p2'
  have HX := Lib.hid hX
  have sd0 : ∀ v xs W, Grow W1 v xs W → W.cell? ⟨w.heap.size, 0, none⟩ = some (.int .u32 sd) := fun v xs W h => (h.blk HX.out).cell 0
  have SD0 := Lib.hid sd0
  have HZ1 := Lib.hid hz1
  clear hX sd0 hG0 hz1
  go_cut [6] from 6 to 16 (fun p wx => ∃ (t : Nat) (a3 : Option Addr) (c3 : Nat), p = .pointer (some ⟨t, 0, none⟩) ∧ W1.heap.size ≤ t ∧ Blk wx t 61 #[.slice a3 6 c3] ∧ Grow W1 (.slice a3 6 c3) (be2 16980 ++ be4 sd) wx)
  case first =>
    go_region_held3 (fun w' => w'.cell? ⟨w.heap.size, 0, none⟩ = some (.int .u32 sd)) (first | exact q0 | with_reducible exact SD0.out _ _ _ GA | with_reducible exact SD0.out _ _ _ GB | with_reducible exact SD0.out _ _ _ G2 | with_reducible exact SD0.out _ _ _ (G2.alloc _) | with_reducible exact SD0.out _ _ _ G3 | with_reducible exact SD0.out _ _ _ (G3.alloc _) | with_reducible exact SD0.out _ _ _ (G3.set T3 (by decide) (Nat.le_refl _) _ _) | with_reducible exact SD0.out _ _ _ (G3.set T3 (by decide) G2.below.size _ _) | with_reducible exact SD0.out _ _ _ ((G3.alloc _).set (Blk.new w3 61 #[.slice none 0 0]) (by decide) G3.below.size _ _) | fail "no keep")
      (first
        | (go_at_call 90; (with_reducible refine (p1.out _ GA).mono ?_); rintro e w2 ⟨a2, c2, rfl, G2, t2⟩)
        | (go_at_call 90; (with_reducible refine (p1.out _ GB).mono ?_); rintro e w2 ⟨a2, c2, rfl, G2, t2⟩; have T2 := Blk.touch TB t2 (noOwn _); have cT := Blk.cell T2 0; have fT := Blk.frozen T2 0)
        | (go_at_call 68; (with_reducible refine (p2.out _ _ (G2.alloc _)).mono ?_); rintro e w3 ⟨a3, c3, rfl, G3, t3⟩; have T3 := Blk.touch (Blk.new w2 61 #[.slice none 0 0]) t3 (Grow.notOwn (G2.alloc _) (Blk.new w2 61 #[.slice none 0 0]) (by decide)); have cT := Blk.cell T3 0; have fT := Blk.frozen T3 0)
        | (go_at_call 68; (with_reducible refine (p2.out _ _ G2).mono ?_); rintro e w3 ⟨a3, c3, rfl, G3, t3⟩; (try (have T3 := Blk.touch T2 t3 (Grow.notOwn G2 T2 (by decide)); have cT := Blk.cell T3 0; have fT := Blk.frozen T3 0)))
        | fail "no arm")
    · go_wp2_with fail
      go_meet
      exact ⟨_, a3, c3, rfl, G3.below.size, Blk.new w3 _ _, G3.alloc _⟩
    · go_wp2_with fail
      go_meet
      exact ⟨_, a3, c3, rfl, G2.below.size, blk_set0 T3 _, G3.set T3 (by decide) G2.below.size _ _⟩
    · go_wp2_with fail
      go_meet
      exact ⟨_, a3, c3, rfl, Nat.le_refl _, blk_set0 T3 _, G3.set T3 (by decide) (Nat.le_refl _) _ _⟩
  case rest =>
    obtain ⟨t, a3, c3, rfl, htz, hTB, hG⟩ := hcut
    have HTZ := Lib.hid htz
    clear p1 p2 SD0 GA GB TB q0
    have hlw : IntKind.u32.wrap (ls.length : Int) = (ls.length : Int) := by simp [IntKind.wrap, IntKind.bits, IntKind.signed]; omega
    have tc := hTB.cell 0
    have x1 : wc.cell? ⟨w.heap.size, 1, none⟩ = some (.slice a ls.length cap) := (hG.blk HX.out).cell 1
    have p3' : ∀ W, Grow W1 (.slice a3 6 c3) (be2 16980 ++ be4 sd) W → Calls Try.prog 68 #[.slice a3 6 c3, .int .u32 (ls.length : Int)] W fun e w' => ∃ a c, e = .returned (.slice a 10 c) ∧ Grow W1 (.slice a 10 c) (headB sd ls.length) w' ∧ Touch (OwnB (.slice a3 6 c3)) W w' := fun W h => by
      have := put32_grow W1 W (.slice a3 6 c3) (be2 16980 ++ be4 sd) (ls.length : Int) h (by simp [be2, be4]) (by omega) (by omega)
      exact this
    have p3 := Lib.hid p3'
    have HG := Lib.hid hG
    have HTB := Lib.hid hTB
    clear p3' hG hTB
    go_upto_region 5 with (first | (go_at_call 68; (with_reducible refine (p3.out _ HG.out).mono ?_); rintro e w4 ⟨a4, c4, rfl, G4, t4⟩; have T4 := Blk.touch HTB.out t4 (Grow.notOwn HG.out HTB.out (by decide)); have cT := Blk.cell T4 0; have fT := Blk.frozen T4 0) | fail)
    obtain ⟨W5, hW5⟩ : ∃ W5, W5 = w4.setCell ⟨t, 0, none⟩ (.slice a4 10 c4) := ⟨_, rfl⟩
    have G5 := G4.set T4 (by decide) htz (.slice a4 10 c4) 0
    have T5 := blk_set0 T4 (.slice a4 10 c4)
    rw [← hW5] at G5 T5
    rw [← hW5]
    have X5 : Blk W5 w.heap.size 49 #[.int .u32 sd, .slice a ls.length cap] := G5.blk HX.out
    have y0 := X5.cell 0
    have y1 := X5.cell 1
    have pr := Lib.hid (runs_any W5 sd a ls.length cap)
    clear cT fT T4 t4 G4 hW5 p3 HG HTB x1 tc hlw q1 htz
    go_wp2_with (first | (refine pr.out.mono ?_; rintro e w' ⟨rfl, rfl⟩) | fail)
    refine (wpIn_wide (n := 9)).1 ?_
    obtain ⟨V2, hV2⟩ : ∃ V2, V2 = W5.alloc (.cells #[.int .u32 sd, .slice a ls.length cap] 49) := ⟨_, rfl⟩
    rw [← hV2]
    obtain ⟨tb, htb⟩ : ∃ tb, tb = W5.heap.size := ⟨_, rfl⟩
    rw [← htb]
    have HTB := Lib.hid htb
    have hz2 : V2.heap.size = tb + 1 := by rw [hV2, htb]; simp
    have R2 : RB W1 t tb #[.int .u32 sd, .slice a ls.length cap] (.slice a4 10 c4) (headB sd ls.length) V2 := by
      rw [hV2, htb]
      exact ⟨T5.alloc _, G5.alloc _, Blk.new _ _ _⟩
    have hBV : Below w.heap.size w V2 := hB.trans (R2.grow.below.mono (Nat.le_of_lt hXl))
    have hrow2 : InRow V2 a ls := inRow_pre hrow hBV
    have hbd := runAt_bounds hrow.1
    have hwz : w.heap.size ≤ W1.heap.size := Nat.le_of_lt hXl
    obtain ⟨K, hK⟩ : ∃ K : Nat → Prop, K = fun k => k < W1.heap.size ∨ k = tb := ⟨_, rfl⟩
    have hsz : W1.heap.size ≤ tb := by rw [htb]; exact G5.below.size
    have kin : ∀ k, K k → k < V2.heap.size := fun k hk => by rw [hK] at hk; rcases hk with h | h <;> omega
    have hbn := runs_nat tb K sd a cap ls V2 kin R2.box hrow2 (by rw [hK]; exact .inr rfl) (fun h0 b hb => by rw [hK]; exact .inl (Nat.lt_of_lt_of_le (inRow_lt hrow h0 b hb) hwz)) (by omega)
    clear htb
    have hrl : (runsL ls).length ≤ 16384 := Nat.le_trans (runsL_len _ ls (Nat.le_refl _)) hl
    obtain ⟨N, hN⟩ : ∃ N, N = (runsL ls).length := ⟨_, rfl⟩
    rw [← hN] at hbn hrl
    obtain ⟨bx, hbx⟩ : ∃ bx : Array Value, bx = #[.int .u32 sd, .slice a ls.length cap] := ⟨_, rfl⟩
    rw [← hbx] at R2
    obtain ⟨I, hI⟩ : ∃ I : List Nat → World → Prop, I = fun pre W => (∃ zs a' c', RB W1 t tb bx (.slice a' zs.length c') zs W ∧ zs.length ≤ 10 + 5 * pre.length ∧ (pre = List.range pre.length → pre.length ≤ N → zs = preB sd ls pre.length)) ∧ V2.heap.size ≤ W.heap.size := ⟨_, rfl⟩
    have hown1 : OwnFrom V2.heap.size I := by
      rw [hI]
      rintro pre A B row ⟨⟨zs, a', c', hr, h1, h2⟩, hz⟩ hg hrow
      exact ⟨⟨zs, a', c', hr.own hg (fun r e => ⟨by have := (hrow r e).1; omega, (hrow r e).2⟩), h1, h2⟩, Nat.le_trans hz hg.size⟩
    have h00 : I [] V2 := by
      rw [hI]
      refine ⟨⟨headB sd ls.length, a4, c4, R2, by simp [headB, be2, be4], fun _ _ => (preB_zero sd ls).symm⟩, Nat.le_refl _⟩
    refine' wpIn_rangeFunc_ownH (F := Fence.wide) (n := 9) rfl (by omega) (gf := 121) (lb := #[.pointer (some ⟨tb, 0, none⟩)]) rfl trivial (enters_of Try.func121 (by kernel_rfl) rfl)
      hbn keepB_t (keepB_b (m := V2.heap.size) kin) (Below.refl _ _) (fun _ => rfl)
      I (fun _ _ _ => False) hown1 (fun c s A B row hs hg hr => hs) h00
      (fun x a' V => ∃ b, V2.heap.size ≤ b ∧ Blk V b 69 #[.int .u16 ((runAt ls x).2.1 : Int), .int .u16 ((runAt ls x).2.2 : Int)] ∧ a' = { defers := [], tmps := #[Value.agg #[Value.int IntKind.u32 sd, Value.slice a ls.length cap],
          Value.pointer (some { block := g, off := 0 }), Value.pointer (some { block := w.heap.size, off := 0 }), undef,
          Value.slice none 0 0, Value.int IntKind.i64 0, Value.pointer (some { block := t, off := 0 }), .int .i64 ((runAt ls x).1 : Int), .pointer (some ⟨b, 0, none⟩), u9, u10,
          u11, u12, u13, u14, u15, u16, Value.slice a3 6 c3, Value.pointer (some { block := w.heap.size, off := 1 }),
          Value.slice a ls.length cap, Value.int IntKind.i64 ↑ls.length, Value.int IntKind.u32 ↑ls.length,
          Value.slice a4 10 c4, Value.agg #[Value.int IntKind.u32 sd, Value.slice a ls.length cap],
          Value.func (Fn.func 121) #[] #[Value.pointer (some { block := tb, off := 0 })], .int .i64 ((runAt ls x).1 : Int), .agg #[.int .u16 ((runAt ls x).2.1 : Int), .int .u16 ((runAt ls x).2.2 : Int)], undef,
          undef, undef, undef, undef, undef, undef, undef, undef, undef, undef, undef, undef, undef, undef] })
      (fun x a' s A B row hs hg hr => by
        obtain ⟨b, h1, h3, h4⟩ := hs
        exact ⟨b, h1, blk_own h3 hg (fun r e => (hr r e).2), h4⟩) ?assign ?body ?done ?stop
    case assign =>
      rintro lo2 pre x U Kk hU hKk
      dsimp only [encR] at hKk ⊢
      have hu := hU
      rw [hI] at hu
      have huz := hu.2
      have hb3 : Below U.heap.size U (U.alloc (.cells #[.int .u16 ((runAt ls x).2.1 : Int), .int .u16 ((runAt ls x).2.2 : Int)] 69)) := (Below.refl _ U).alloc (Nat.le_refl _) _
      have hfin := hKk _ (U.alloc (.cells #[.int .u16 ((runAt ls x).2.1 : Int), .int .u16 ((runAt ls x).2.2 : Int)] 69)) (below_from hb3) (below_keepB hb3 (fun k hk => Nat.lt_of_lt_of_le (kin k hk) huz)) (hown1 pre U _ none hU ⟨hb3.os, hb3.tape, hb3.output, hb3.size, fun k hk _ => hb3.block k hk⟩ (fun r e => by cases e)) ⟨U.heap.size, huz, Blk.new _ _ _, rfl⟩
      clear hu huz hb3 hown1 h00 hbn hU hKk hI
      gi_wp2
      exact hfin
    case stop =>
      rintro D c pre U hD _ hf
      exact hf.elim
    case body =>
      rintro lo2 pre x a' U hlo hrec hU ⟨b, hbz, hb, rfl⟩ hlt
      rw [hI] at hU
      obtain ⟨⟨zs, av, cv, hr, hy1, hy2⟩, huz⟩ := hU
      obtain ⟨n, hn⟩ : ∃ n, n = (runAt ls x).1 := ⟨_, rfl⟩
      obtain ⟨p, hp⟩ : ∃ p, p = (runAt ls x).2.1 := ⟨_, rfl⟩
      obtain ⟨q, hq⟩ : ∃ q, q = (runAt ls x).2.2 := ⟨_, rfl⟩
      have hbp := hbd x
      rw [← hp, ← hq] at hbp
      rw [← hp, ← hq] at hb
      rw [← hn, ← hp, ← hq]
      have hzl : zs.length ≤ 100000 := by omega
      have hwr : IntKind.u8.wrap (n : Int) = ((n : Int) % 256) := by simp [IntKind.wrap, IntKind.bits, IntKind.signed]
      have hd0 := Rd.start (B := V2.heap.size) hr hb HTZ.out
      have c0 := hr.sl.cell 0
      have hd1 := hd0.alloc (.cells #[.int .u8 ((n : Int) % 256)] 5)
      obtain ⟨i0, hi, hz0, hz1, hz3⟩ := info_parts info8
      have HD1 := Lib.hid hd1
      have HY := Lib.hid hy2
      have HN := Lib.hid hn
      have HP := Lib.hid hp
      have HQ := Lib.hid hq
      have HFIN : Hid (∀ a' c' W, Rd W1 V2.heap.size t tb b bx #[.int .u16 (p : Int), .int .u16 (q : Int)] U (.slice a' (zs.length + 5) c') (.slice a' (zs.length + 5) c') (zs ++ [(n : Int) % 256] ++ be2 (p : Int) ++ be2 (q : Int)) W → KeepsFrom V2.heap.size U W ∧ KeepB K U W ∧ I (pre ++ [x]) W) := Lib.hid (fun a' c' W h => by
        have hl5 : (zs ++ [(n : Int) % 256] ++ be2 (p : Int) ++ be2 (q : Int)).length = zs.length + 5 := by simp [be2]
        refine ⟨h.kf, by rw [hK]; exact h.kb, ?_⟩
        rw [hI]
        refine ⟨⟨zs ++ [(n : Int) % 256] ++ be2 (p : Int) ++ be2 (q : Int), a', c', by rw [hl5]; exact h.rb, by rw [hl5, List.length_append, List.length_singleton]; omega, fun hg hle => ?_⟩, Nat.le_trans huz h.kf.size⟩
        obtain ⟨g1, g2⟩ := range_snoc hg
        rw [List.length_append, List.length_singleton] at hle ⊢
        have hzs := hy2 g1 (by omega)
        rw [preB_succ sd ls pre.length (by omega), ← hzs, ← g2]
        unfold runB
        rw [← hn, ← hp, ← hq]
        simp only [List.append_assoc])
      have HI' := Lib.hid hI
      clear hd1 hd0 hr hb hy2 hn hp hq hI hown1 h00 hbn hrow2 hbx R2 hrec y0 y1 X5
      gi_wp2_with (gi_at_builtin; refine wpListIn_append_on _ (by rfl) _ _ 61 (by rfl) 5 i0 _ 1 1 Try.underlying61 hi hz0 hz1 hz3 (by rfl) (by omega) (.slice av zs.length cv) zs.length (ub zs) (by rfl) HD1.out.grow.out (some ⟨U.heap.size, 0, none⟩) 1 1 (ub [((n : Int) % 256)]) (by rfl) (by rfl) (src_new U 5 1 (ub [((n : Int) % 256)])) (ub_one _) (by simp only [maxLen]; omega) (by omega) ?_; intro v1 w1 hon hg1 hv1; have HD2 := Lib.hid (Rd.app HD1.out (out_snoc (ys := [(n : Int) % 256]) hon) hg1 hv1); obtain ⟨a1, c1, hv2, -, -⟩ := On.slice hon; subst hv2; have cT := HD2.out.sl.cell 0; have fT := HD2.out.sl.frozen 0; clear hon hg1 hv1)
      obtain ⟨W3, hW3⟩ : ∃ W3, W3 = w1.setCell ⟨t, 0, none⟩ (.slice a1 (zs.length + 1) c1) := ⟨_, rfl⟩
      have hd3 := HD2.out.store
      rw [← hW3] at hd3
      rw [← hW3]
      have pA' : ∀ W, Grow W1 (.slice a1 (zs.length + 1) c1) (zs ++ [(n : Int) % 256]) W → Calls Try.prog 90 #[.slice a1 (zs.length + 1) c1, .int .u16 (p : Int)] W fun e w' => ∃ a c, e = .returned (.slice a (zs.length + 3) c) ∧ Grow W1 (.slice a (zs.length + 3) c) (zs ++ [(n : Int) % 256] ++ be2 (p : Int)) w' ∧ Touch (OwnB (.slice a1 (zs.length + 1) c1)) W w' := fun W h => by
        have := put16_grow W1 W (.slice a1 (zs.length + 1) c1) (zs ++ [(n : Int) % 256]) (p : Int) h (by simp; omega) (by omega) (by omega)
        rw [List.length_append, show zs.length + [(n : Int) % 256].length + 2 = zs.length + 3 from rfl] at this
        exact this
      have pB' : ∀ W a c, Grow W1 (.slice a (zs.length + 3) c) (zs ++ [(n : Int) % 256] ++ be2 (p : Int)) W → Calls Try.prog 90 #[.slice a (zs.length + 3) c, .int .u16 (q : Int)] W fun e w' => ∃ a' c', e = .returned (.slice a' (zs.length + 5) c') ∧ Grow W1 (.slice a' (zs.length + 5) c') (zs ++ [(n : Int) % 256] ++ be2 (p : Int) ++ be2 (q : Int)) w' ∧ Touch (OwnB (.slice a (zs.length + 3) c)) W w' := fun W a c h => by
        have := put16_grow W1 W (.slice a (zs.length + 3) c) (zs ++ [(n : Int) % 256] ++ be2 (p : Int)) (q : Int) h (by simp [be2]; omega) (by omega) (by omega)
        rw [List.length_append, List.length_append, show zs.length + [(n : Int) % 256].length + (be2 (p : Int)).length + 2 = zs.length + 5 from rfl] at this
        exact this
      have pA := Lib.hid pA'
      have pB := Lib.hid pB'
      have hd4 := hd3.drew
      have HD3 := Lib.hid hd3
      have HD4 := Lib.hid hd4
      have z0 := hd3.sl.cell 0
      have i0' := hd3.inp.cell 0
      have i1' := hd3.inp.cell 1
      clear pA' pB' hd3 hd4 hW3 HD1 HD2 cT fT c0 hwr
      gi_region_with
        (first
          | (refine And.intro (show Fence.wide.fn _ from trivial) ?_; gi_at_call 90; (with_reducible refine (CallsIn.inRound lo2 ((callsIn_wide (n := _)).2 (pA.out _ HD4.out.grow))).mono ?_); rintro e w2 ⟨a2, c2, rfl, G2, t2⟩; have HD5 := Lib.hid (HD4.out.put G2 t2); have i1' := HD5.out.inp.cell 1)
          | (refine And.intro (show Fence.wide.fn _ from trivial) ?_; gi_at_call 90; (with_reducible refine (CallsIn.inRound lo2 ((callsIn_wide (n := _)).2 (pB.out _ _ _ HD5.out.grow))).mono ?_); rintro e w3 ⟨a3, c3, rfl, G3, t3⟩; have HD6 := Lib.hid (HD5.out.put G3 t3); have cT := HD6.out.sl.cell 0; have fT := HD6.out.sl.frozen 0)
          | fail)
      all_goals
        gi_wp2
        exact HFIN.out _ _ _ HD6.out.store
    case done =>
      rintro D ys U hD rfl hU hdef
      rw [hI] at hU
      obtain ⟨⟨zs, av, cv, hr, hy1, hy2⟩, huz⟩ := hU
      have hzs : zs = tapeB sd ls := by
        have := hy2 (by simp) (by simp)
        rw [List.length_range, hN, preB_all] at this
        exact this
      rw [List.length_range] at hy1
      have hz5 : zs.length ≤ 1000000 := by omega
      obtain ⟨a6, c6, hv6, hrow6⟩ := out_row hr.grow.out
      have hbw : Below w.heap.size w U := hB.trans (hr.grow.below.mono hwz)
      have hwU : w.heap.size ≤ U.heap.size := hbw.size
      cases hv6
      have pS := Lib.hid (cseal_any U g ((hT.below hbw)) av zs.length cv zs hrow6 (by rw [hzs]; exact tapeB_byte sd ls) hz5)
      have c0 := hr.sl.cell 0
      have HZ := Lib.hid hzs
      have HBW := Lib.hid hbw
      have HWU := Lib.hid hwU
      have HDF := Lib.hid hdef
      clear hzs hbw hwU hy2 hr hrow6 hI hown1 h00 hbn hrow2 hbx R2 y0 y1 X5 hdef hT
      go_wp2_with (first | (go_at_call 92; refine pS.out.mono ?_; rintro e w6 ⟨v6, rfl, on6, b6, ow6⟩) | fail)
      have hdef' : w6.heap[D]? = some (Obj.deferred (some [])) := (b6.block D (Array.getElem?_eq_some_iff.1 HDF.out).1).trans HDF.out
      have hDw : w.heap.size ≤ D := Nat.le_trans hBV.size hD
      refine ⟨by simp, .inl ⟨_, _, rfl, run_takeDeferred hdef', ?_⟩⟩
      refine ⟨.tuple #[v6, .int .i64 0], ?_, v6, rfl, ?_, (HBW.out.trans (b6.mono HWU.out)).trans (belowK_b (w := w) (Nat.le_refl _) _ D _ _ hDw hdef' rfl rfl), fun g' hg' => Nat.le_trans HWU.out (ow6 g' hg')⟩
      · simp [results, Try.f45, go_sem]
      · rw [← HZ.out]
        exact on_own on6 (grownBy_putObj' w6 D _) (fun r e => by cases e; exact ⟨_, hdef', rfl⟩)
end Go.Proofs.Ytlhoffhagfhbcaa.Spe
namespace Go.Proofs.Ytlhoffhagfhbcaa.Spe
open Go.RowKit Go.Shelf Go.Proofs.Ytlhoffhagfhbcaa.Byt Go.Proofs.Ytlhoffhagfhbcaa.Gm Go.Proofs.Ytlhoffhagfhbcaa.RingE Go.Proofs.Ytlhoffhagfhbcaa.Crc
set_option linter.all false
attribute [local go_sem] Oper.semAt_some

theorem le4_byte (z : Int) : ∀ x ∈ le4 z, 0 ≤ x ∧ x < 256 := by
  intro x hx
  simp [le4] at hx
  rcases hx with rfl | rfl | rfl | rfl <;> omega
theorem sealB_byte {B : List Int} (h : ∀ x ∈ B, 0 ≤ x ∧ x < 256) : ∀ x ∈ sealB B, 0 ≤ x ∧ x < 256 := by
  intro x hx
  rcases List.mem_append.1 hx with hx | hx
  · exact h x hx
  · exact le4_byte _ x hx
theorem sealB_len (B : List Int) : (sealB B).length = B.length + 4 := by simp [sealB, le4]
theorem open_seal (B : List Int) : openC (sealB B) = 0 ∧ openL (sealB B) = B := by
  have h1 : (sealB B).take ((sealB B).length - 4) = B := by
    rw [sealB_len, Nat.add_sub_cancel]
    unfold sealB
    exact List.take_left
  have h2 : openC (sealB B) = 0 := by unfold openC; rw [if_neg (by rw [sealB_len]; omega), h1, if_pos rfl]
  exact ⟨h2, by unfold openL; rw [if_pos h2, h1]⟩
theorem getN_be4 (n : Nat) (h : n < 4294967296) : getN (nb (be4 (n : Int))) = n := by
  simp [be4, nb, getN]
  omega
theorem tape_flds (sd : Nat) (ls : List (Nat × Nat)) (hl : ls.length < 4294967296) : 10 ≤ (tapeB (sd : Int) ls).length ∧ mgOf (tapeB (sd : Int) ls) = 16980 ∧ manyOf (tapeB (sd : Int) ls) = ls.length := by
  refine ⟨by simp [tapeB, headB, be2, be4], ?_, ?_⟩
  · unfold mgOf tapeB headB
    rw [show (be2 16980 ++ be4 (sd : Int) ++ be4 (ls.length : Int) ++ (runsL ls).flatMap runB).take 2 = be2 16980 by simp [be2]]
    decide
  · unfold manyOf tapeB headB
    rw [show ((be2 16980 ++ be4 (sd : Int) ++ be4 (ls.length : Int) ++ (runsL ls).flatMap runB).drop 6).take 4 = be4 (ls.length : Int) by simp [be2, be4]]
    exact getN_be4 _ hl
theorem parse_own {sd : Nat} {ls : List (Nat × Nat)} (hs : sd < 4294967296) (hb : InB ls) (hl : ls.length ≤ 16384) : ParseR (sealB (tapeB (sd : Int) ls)) sd ls 0 := by
  obtain ⟨h1, h2⟩ := open_seal (tapeB (sd : Int) ls)
  obtain ⟨t1, t2, t3⟩ := tape_flds sd ls (by omega)
  unfold ParseR HeadR
  rw [if_pos h1, h2, if_neg (by omega), if_neg (by simp [t2]), if_neg (by omega)]
  exact .inl ⟨rfl, hs, hb, hl, rfl⟩

set_option maxRecDepth 100000 in
set_option maxHeartbeats 4000000 in
theorem same31_any (w : World) (a b : Option Addr) (c c' : Nat) (xs ys : List (Nat × Nat)) (ha : InRow w a xs) (hb : InRow w b ys) (hl : xs.length ≤ 9223372036854775807) (hl' : ys.length ≤ 9223372036854775807) :
    Calls Try.prog 48 #[.slice a xs.length c, .slice b ys.length c'] w fun e w' => e = .returned (.bool (decide (xs = ys))) ∧ Below w.heap.size w w' := by
  by_cases hne : xs.length = ys.length
  · obtain ⟨l, hxl⟩ : ∃ l, xs.length = l := ⟨_, rfl⟩
    rw [← hne, hxl]
    rw [hxl] at hne hl
    have HA := Lib.hid ha
    have HB := Lib.hid hb
    have HXL := Lib.hid hxl
    have HYL := Lib.hid hne
    clear ha hb hxl hne hl'
    go_enter Try.func48, Try.ntmps48
    go_wp2_with fail
    go_loopw [5] (fun i wr => ∃ k : Nat, k ≤ l ∧ i = .int .i64 k ∧ (∀ j : Nat, j < k → xs[j]? = ys[j]?) ∧ ∃ nn, wr = w.drewN nn) (fun i _ => l - (intOf i).toNat)
    case atStart => exact ⟨0, Nat.zero_le _, rfl, fun j hj => absurd hj (Nat.not_lt_zero _), 0, rfl⟩
    case round =>
      obtain ⟨k, hk, rfl, heq, nn, rfl⟩ := hrel
      by_cases hlt : k < l
      · obtain ⟨ga, oa, rfl, hga, ca⟩ := HA.out.2 (by rw [HXL.out]; omega)
        obtain ⟨gb, ob, rfl, hgb, cb⟩ := HB.out.2 (by rw [← HYL.out]; omega)
        obtain ⟨x, hx⟩ : ∃ x, xs[k]? = some x := ⟨xs[k]'(by rw [HXL.out]; exact hlt), List.getElem?_eq_getElem (by rw [HXL.out]; exact hlt)⟩
        obtain ⟨y, hy⟩ : ∃ y, ys[k]? = some y := ⟨ys[k]'(by rw [← HYL.out]; exact hlt), List.getElem?_eq_getElem (by rw [← HYL.out]; exact hlt)⟩
        have r1 := ca k (by rw [HXL.out]; exact hlt)
        have r2 := cb k (by rw [← HYL.out]; exact hlt)
        obtain ⟨d0, d1⟩ := I2.inA_get hx
        obtain ⟨g0, g1⟩ := I2.inA_get hy
        rw [d0, d1] at r1
        rw [g0, g1] at r2
        have hbx := HA.out.1 _ (List.mem_of_getElem? hx)
        have hby := HB.out.1 _ (List.mem_of_getElem? hy)
        have i1 : (0 : Int) ≤ (k : Int) := by omega
        have i2 : (k : Int) < (l : Int) := by omega
        have hEq0 := fun W => in_eql W _ _ hbx hby
        have HX := Lib.hid hx
        have HY := Lib.hid hy
        clear ca cb hx hy d0 d1 g0 g1
        obtain ⟨x0, x1⟩ := x
        obtain ⟨y0, y1⟩ := y
        obtain ⟨ra0, ra1⟩ := r1
        obtain ⟨rb0, rb1⟩ := r2
        by_cases hv : (x0, x1) = (y0, y1)
        · have HE := Lib.hid (show ∀ j : Nat, j < k + 1 → xs[j]? = ys[j]? from fun j hj => by
            rcases Nat.lt_or_ge j k with h | h
            · exact heq j h
            · obtain rfl : j = k := by omega
              rw [HX.out, HY.out, hv])
          have hEq : ∀ W, (Op.equalIn 10000 69 (.agg #[.int .u16 (x0 : Int), .int .u16 (x1 : Int)]) (.agg #[.int .u16 (y0 : Int), .int .u16 (y1 : Int)])).run Try.prog W = .ok true W := fun W => by
            have := hEq0 W
            rw [decide_eq_true hv] at this
            exact this
          clear heq hv hEq0
          go_wp2_with fail
          go_quiet (fail)
          go_wp2_with fail
          go_roundw
          case rel => exact ⟨k + 1, by omega, by go_num, HE.out, _, rfl⟩
          case measure => simp [intOf]; omega
        · have HD := Lib.hid (show decide (xs = ys) = false from decide_eq_false fun e => hv (by
            have h1 := HX.out
            rw [e, HY.out] at h1
            exact (Option.some.inj h1).symm))
          have hEq : ∀ W, (Op.equalIn 10000 69 (.agg #[.int .u16 (x0 : Int), .int .u16 (x1 : Int)]) (.agg #[.int .u16 (y0 : Int), .int .u16 (y1 : Int)])).run Try.prog W = .ok false W := fun W => by
            have := hEq0 W
            rw [decide_eq_false hv] at this
            exact this
          clear heq hEq0 hv
          go_wp2_with fail
          go_quiet (fail)
          go_wp2_with fail
          go_ret
          exact ⟨ret_bool (by rw [HD.out]), below_drewN (below_drewN (Below.refl _ _) _) _⟩
      · obtain rfl : k = l := by omega
        have HD := Lib.hid (show decide (xs = ys) = true from decide_eq_true (List.ext_getElem? fun j => by
          rcases Nat.lt_or_ge j k with h | h
          · exact heq j h
          · rw [List.getElem?_eq_none (by rw [HXL.out]; exact h), List.getElem?_eq_none (by rw [← HYL.out]; exact h)]))
        clear heq
        go_wp2_with fail
        go_ret
        exact ⟨ret_bool (by rw [HD.out]), below_drewN (Below.refl _ _) _⟩
  · have i1 : ¬ (xs.length : Int) = (ys.length : Int) := by omega
    have HD := Lib.hid (show decide (xs = ys) = false from decide_eq_false fun e => hne (by rw [e]))
    obtain ⟨l, hxl⟩ : ∃ l, xs.length = l := ⟨_, rfl⟩
    obtain ⟨m, hyl⟩ : ∃ m, ys.length = m := ⟨_, rfl⟩
    rw [hxl, hyl] at i1 ⊢
    clear hne hxl hyl ha hb
    go_enter Try.func48, Try.ntmps48
    go_wp2_with fail
    go_ret
    exact ⟨ret_bool (by rw [HD.out]), Below.refl _ _⟩
end Go.Proofs.Ytlhoffhagfhbcaa.Spe
namespace Go.Proofs.Ytlhoffhagfhbcaa.Spe
open Go.RowKit Go.Shelf Go.Proofs.Ytlhoffhagfhbcaa.Byt Go.Proofs.Ytlhoffhagfhbcaa.Gm Go.Proofs.Ytlhoffhagfhbcaa.RingE Go.Proofs.Ytlhoffhagfhbcaa.Crc
set_option linter.all false
attribute [local go_sem] Oper.semAt_some

def ex3 : List (Nat × Nat) := [(1, 2), (1, 2), (1, 2)]
theorem ex3_bytes : tapeB 1 ex3 = [66, 84, 0, 0, 0, 1, 0, 0, 0, 3, 3, 0, 1, 0, 2] := by decide
set_option maxRecDepth 100000 in
set_option maxHeartbeats 4000000 in
theorem awake31 (w : World) : Calls Try.prog 43 #[] w fun e w' => e = .returned (.bool true) ∧ Below w.heap.size w w' := by
  obtain ⟨W1, hW1⟩ : ∃ W1, W1 = (w.alloc (.cells #[.int .u16 1, .int .u16 2, .int .u16 1, .int .u16 2, .int .u16 1, .int .u16 2] 69)).alloc (.cells #[.int .u32 1, .slice (some ⟨w.heap.size, 0, none⟩) 3 3] 49) := ⟨_, rfl⟩
  have hL : Blk W1 w.heap.size 69 #[.int .u16 1, .int .u16 2, .int .u16 1, .int .u16 2, .int .u16 1, .int .u16 2] := by rw [hW1]; exact (Blk.new w _ _).alloc _
  have hX : Blk W1 (w.heap.size + 1) 49 #[.int .u32 1, .slice (some ⟨w.heap.size, 0, none⟩) 3 3] := by
    rw [hW1]
    have := Blk.new (w.alloc (.cells #[.int .u16 1, .int .u16 2, .int .u16 1, .int .u16 2, .int .u16 1, .int .u16 2] 69)) 49 #[.int .u32 1, .slice (some ⟨w.heap.size, 0, none⟩) 3 3]
    simpa using this
  have hB : Below w.heap.size w W1 := by rw [hW1]; exact ((Below.refl _ w).alloc (Nat.le_refl _) _).alloc (by simp) _
  have hrow : InRow W1 (some ⟨w.heap.size, 0, none⟩) ex3 := ⟨by intro x hx; simp [ex3] at hx; rcases hx with rfl; simp, fun _ => ⟨w.heap.size, 0, rfl, hL.lt, fun j hj => by
    rw [Nat.zero_add, hL.cell, hL.cell]
    match j, hj with
    | 0, _ => exact ⟨rfl, rfl⟩
    | 1, _ => exact ⟨rfl, rfl⟩
    | 2, _ => exact ⟨rfl, rfl⟩⟩⟩
  have HROW := Lib.hid hrow
  have pN := Lib.hid (fun W => cnew_any W)
  have pB' : ∀ (W : World) (g : Nat), Crc.Rows W g 256 → InRow W (some ⟨w.heap.size, 0, none⟩) ex3 → Calls Try.prog 45 #[.agg #[.int .u32 1, .slice (some ⟨w.heap.size, 0, none⟩) 3 3], .pointer (some ⟨g, 0, none⟩)] W fun e w' => ∃ a c, e = .returned (.tuple #[.slice a 19 c, .int .i64 0]) ∧ 19 ≤ c ∧ c ≤ 9223372036854775807 ∧ Row .u8 w' a 19 (sealB (tapeB 1 ex3)) ∧ Below W.heap.size W w' := fun W g hT hr =>
    (tbytes_any W g hT 1 (some ⟨w.heap.size, 0, none⟩) 3 ex3 hr (by simp [ex3]) (by omega) (by omega)).mono (by
      rintro e w' ⟨v, rfl, hon, hb, hown⟩
      have hl : (sealB (tapeB 1 ex3)).length = 19 := by rw [sealB_len, ex3_bytes]; rfl
      obtain ⟨a, c, rfl, h1, h2, h3⟩ := out_rowc (xs := sealB (tapeB 1 ex3)) (by unfold Out; rw [sealB_len]; exact hon)
      rw [hl] at h1 h3
      exact ⟨a, c, by rw [hl], h1, h2, h3, hb⟩)
  have pB := Lib.hid pB'
  clear pB'
  have HB := Lib.hid hB
  have HX := Lib.hid hX
  have t0 : W1.drew.cell? ⟨w.heap.size + 1, 0, none⟩ = some (.int .u32 1) := hX.cell 0
  have t1 : W1.drew.cell? ⟨w.heap.size + 1, 1, none⟩ = some (.slice (some ⟨w.heap.size, 0, none⟩) 3 3) := hX.cell 1
  have hBd : Below W1.heap.size W1 W1.drew := (Below.refl _ W1).drew
  clear hL hX hB hrow
  go_enter Try.func43, Try.ntmps43
  go_upto_region 2 with fail
  rw [← hW1]
  clear hW1
  go_region_held3 (fun W => W.cell? ⟨w.heap.size + 1, 0, none⟩ = some (.int .u32 1) ∧ W.cell? ⟨w.heap.size + 1, 1, none⟩ = some (.slice (some ⟨w.heap.size, 0, none⟩) 3 3)) (first | exact ⟨t0, t1⟩ | exact ⟨k0, k1⟩ | exact ⟨m0, m1⟩ | fail "no keep")
    (first
      | (go_at_call 44; (with_reducible refine (pN.out _).mono ?_); rintro e w2 ⟨rfl, hT, b2⟩; have hT' : Crc.Rows w2 W1.heap.size 256 := hT; have B2 := hBd.trans (b2.mono hBd.size); have k0 : w2.cell? ⟨w.heap.size + 1, 0, none⟩ = some (.int .u32 1) := (HX.out.below B2 HX.out.lt).cell 0; have k1 : w2.cell? ⟨w.heap.size + 1, 1, none⟩ = some (.slice (some ⟨w.heap.size, 0, none⟩) 3 3) := (HX.out.below B2 HX.out.lt).cell 1)
      | (go_at_call 45; (with_reducible refine (pB.out _ _ hT' (inRow_pre HROW.out B2)).mono ?_); rintro e w3 ⟨a3, c3, rfl, hc3, hc33, hrow3, b3⟩; have B3 := B2.trans (b3.mono B2.size); have m0 : w3.cell? ⟨w.heap.size + 1, 0, none⟩ = some (.int .u32 1) := (HX.out.below B3 HX.out.lt).cell 0; have m1 : w3.cell? ⟨w.heap.size + 1, 1, none⟩ = some (.slice (some ⟨w.heap.size, 0, none⟩) 3 3) := (HX.out.below B3 HX.out.lt).cell 1)
      | fail "no arm")
  have hl15 : (tapeB 1 ex3).length = 15 := by rw [ex3_bytes]; rfl
  have hrow15 : Row .u8 w3 a3 15 (tapeB 1 ex3) := by
    obtain ⟨b, off, rfl, hbl, hcl⟩ := hrow3.2 (by omega)
    have := row_sub hrow3 0 15 (by omega)
    rw [Nat.add_zero, List.drop_zero] at this
    rw [show (sealB (tapeB 1 ex3)).take 15 = tapeB 1 ex3 by unfold sealB; rw [← hl15]; exact List.take_left] at this
    exact this
  have HROW15 := Lib.hid hrow15
  have k15 : (15 : Int) ≤ (c3 : Int) := by omega
  have pS : Hid (∀ (cc : Nat) (W : World), Below w3.heap.size w3 W → Blk W w3.heap.size 5 #[.int .u8 66, .int .u8 84, .int .u8 0, .int .u8 0, .int .u8 0, .int .u8 1, .int .u8 0, .int .u8 0, .int .u8 0, .int .u8 3, .int .u8 3, .int .u8 0, .int .u8 1, .int .u8 0, .int .u8 2] → Calls Try.prog 30 #[.slice a3 15 cc, .slice (some ⟨w3.heap.size, 0, none⟩) 15 15] W fun e w' => e = .returned (.bool true) ∧ Below W.heap.size W w') := Lib.hid (fun cc W hb hX => by
    have hr2 : Row .u8 W (some ⟨w3.heap.size, 0, none⟩) 15 (tapeB 1 ex3) := ⟨hl15, fun _ => ⟨w3.heap.size, 0, rfl, hX.lt, fun j hj => by
      rw [Nat.zero_add, hX.cell, ex3_bytes]
      match j, hj with
      | 0, _ => rfl
      | 1, _ => rfl
      | 2, _ => rfl
      | 3, _ => rfl
      | 4, _ => rfl
      | 5, _ => rfl
      | 6, _ => rfl
      | 7, _ => rfl
      | 8, _ => rfl
      | 9, _ => rfl
      | 10, _ => rfl
      | 11, _ => rfl
      | 12, _ => rfl
      | 13, _ => rfl
      | 14, _ => rfl⟩⟩
    have := same_any W a3 (some ⟨w3.heap.size, 0, none⟩) 15 15 cc 15 _ _ (HROW15.out.below hb) hr2 (by omega) (by omega)
    rw [decide_eq_true rfl] at this
    exact this)
  have BT := HB.out.trans (B3.mono HB.out.size)
  clear hrow3 hrow15 k0 k1 m0 m1 hT hT' hBd
  go_wp2_with (first | (go_at_call 30; (with_reducible refine (pS.out _ _ ((Below.refl _ w3).alloc (Nat.le_refl _) _) (Blk.new w3 _ _)).mono ?_); rintro e w4 ⟨rfl, b4⟩) | fail)
  go_ret
  exact ⟨rfl, BT.trans (((Below.refl _ w3).alloc (Nat.le_refl _) _).trans (b4.mono (by simp)) |>.mono BT.size)⟩
end Go.Proofs.Ytlhoffhagfhbcaa.Spe
namespace Go.Proofs.Ytlhoffhagfhbcaa.Gm
open Go.RowKit Go.Sort Go.Proofs.Ytlhoffhagfhbcaa.Num
set_option linter.all false

theorem wpList_store_midw {ops : Array Oper} {rest : List Oper} {op : Oper} {a : Act} {w : World} {Q : Exit → Act → World → Prop} (hgd : op.guard = none) (ty : TypeId) (x y : Operand) (ho : op.op = .store ty x y)
    (b o : Nat) (cells : Array Value) (hx : a.eval x = .pointer (some ⟨b, o, none⟩)) (hy : a.eval y = .agg cells)
    (ht : w.there b o cells.size) (hi : (Try.prog.info? ty).map (·.size) = some cells.size) (h1 : cells.all (·.oneCell') = true) (w' : World) (hw : w.setCells b o cells.toList = w')
    (h : wpList Try.prog ops Q rest (a.put op.dst undef) w') : wpList Try.prog ops Q (op :: rest) a w :=
  wpList_store_mid hgd ty x y ho b o cells hx hy ht hi h1 (by rw [hw]; exact h)

set_option maxRecDepth 100000 in
set_option maxHeartbeats 4000000 in
theorem rnew_any (w : World) (seed : Int) (h0 : 0 ≤ seed) (h1 : seed < 4294967296) :
    Calls Try.prog 37 #[.int .u32 seed] w fun e w' => e = .returned (stV (newF seed)) ∧ Below w.heap.size w w' := by
  obtain ⟨W1, hW1⟩ : ∃ W1, W1 = (w.alloc (.cells Try.zeroCells31 31)).alloc (.cells Try.zeroCells31 31) := ⟨_, rfl⟩
  have hR : Blk W1 w.heap.size 31 Try.zeroCells31 := by rw [hW1]; exact (Blk.new _ _ _).alloc _
  have hS : SB W1 (w.heap.size + 1) 31 zF := by
    have : Blk W1 (w.heap.size + 1) 31 Try.zeroCells31 := by
      rw [hW1]
      have := Blk.new (w.alloc (.cells Try.zeroCells31 31)) 31 Try.zeroCells31
      simpa using this
    unfold SB
    rw [stA_zero]
    exact this
  have hB : Below w.heap.size w W1 := by rw [hW1]; exact ((Below.refl _ w).alloc (Nat.le_refl _) _).alloc (by simp) _
  have c1 : W1.cell? ⟨w.heap.size + 1, 1, none⟩ = some (.int .u32 0) := hS.seed
  have f1 := hS.fr 1
  have S2 := hS.set_ (j := 1) (by omega) seed
  rw [cv_seed] at S2
  have R2 := Blk.far hR (p := ⟨w.heap.size + 1, 1, none⟩) (by simp) (.int .u32 seed)
  have B2 := hB.setCell (p := ⟨w.heap.size + 1, 1, none⟩) (by simp) (.int .u32 seed)
  have pB0 := Lib.hid (fun W => rborn_any W 0 (by omega))
  have pB1 := Lib.hid (fun W => rborn_any W 1 (by omega))
  have HE := Lib.hid (show newF seed = setB (setB (put zF 1 seed) (2 + 0 * 7) (bornB 0)) (2 + 1 * 7) (bornB 1) from rfl)
  generalize bornB 0 = b0 at *
  generalize bornB 1 = b1 at *
  obtain ⟨v0, hv0', hw0⟩ : ∃ v0, v0 = (bodL b0).toArray ∧ bodV b0 = .agg v0 := ⟨_, rfl, rfl⟩
  obtain ⟨v1, hv1', hw1⟩ : ∃ v1, v1 = (bodL b1).toArray ∧ bodV b1 = .agg v1 := ⟨_, rfl, rfl⟩
  rw [hw0] at pB0
  rw [hw1] at pB1
  have Hv0 := Lib.hid hv0'
  have Hv1 := Lib.hid hv1'
  clear hv0' hv1' hw0 hw1
  have HS := Lib.hid S2
  have HR := Lib.hid R2
  have HB := Lib.hid B2
  clear hS hR hB S2 R2 B2
  go_enter Try.func37, Try.ntmps37
  go_upto_region 2 with fail
  rw [← hW1]
  clear hW1
  go_upto_region 3 with fail
  clear c1 f1
  generalize W1.setCell ⟨w.heap.size + 1, 1, none⟩ (.int .u32 seed) = W2 at *
  go_wp2_with fail
  refine (pB0.out _).mono ?_
  rintro e w3 ⟨rfl, b3⟩
  have S3 := HS.out.below b3 HS.out.lt
  have R3 := HR.out.below b3 HR.out.lt
  have B3 := HB.out.trans (b3.mono HB.out.size)
  go_wp2_with fail
  refine (pB1.out _).mono ?_
  rintro e w4 ⟨rfl, b4⟩
  have S4 := S3.below b4 S3.lt
  have R4 := R3.below b4 R3.lt
  have B4 := B3.trans (b4.mono B3.size)
  clear HS HR HB S3 R3 B3 b3 b4 pB0 pB1
  have hv0 := Hv0.out
  have hv1 := Hv1.out
  obtain ⟨w5, hw5⟩ : ∃ w5, w4.setCells (w.heap.size + 1) 2 (bodL b0) = w5 := ⟨_, rfl⟩
  obtain ⟨w6, hw6⟩ : ∃ w6, w5.setCells (w.heap.size + 1) 9 (bodL b1) = w6 := ⟨_, rfl⟩
  have ht : w4.there (w.heap.size + 1) 2 v0.size := by rw [hv0]; exact S4.there (o := 2) (n := 7) (by omega)
  have S5 : SB w5 (w.heap.size + 1) 31 (setB (put zF 1 seed) (2 + 0 * 7) b0) := by rw [← hw5]; exact S4.setBody (i := 0) (by omega) b0
  have T5 : Touch (fun k => k = w.heap.size + 1) w4 w5 := by rw [← hw5]; exact touch_setCells (S := fun k => k = w.heap.size + 1) (Touch.refl _ _) _ (.inl rfl) _ _
  have ht2 : w5.there (w.heap.size + 1) 9 v1.size := by rw [hv1]; exact S5.there (o := 9) (n := 7) (by omega)
  have S6 : SB w6 (w.heap.size + 1) 31 (setB (setB (put zF 1 seed) (2 + 0 * 7) b0) (2 + 1 * 7) b1) := by rw [← hw6]; exact S5.setBody (i := 1) (by omega) b1
  have T6 : Touch (fun k => k = w.heap.size + 1) w4 w6 := by rw [← hw6]; exact touch_setCells (S := fun k => k = w.heap.size + 1) T5 _ (.inl rfl) _ _
  have hw5' : RowKit.Hid (w4.setCells (w.heap.size + 1) 2 v0.toList = w5) := Lib.hid (by rw [hv0]; exact hw5)
  have hw6' : RowKit.Hid (w5.setCells (w.heap.size + 1) 9 v1.toList = w6) := Lib.hid (by rw [hv1]; exact hw6)
  have hi0 : (Try.prog.info? 24).map (·.size) = some v0.size := by rw [hv0]; exact infoB
  have hi1 : (Try.prog.info? 24).map (·.size) = some v1.size := by rw [hv1]; exact infoB
  have ho0 : v0.all (·.oneCell') = true := by rw [hv0]; exact bodL_one _
  have ho1 : v1.all (·.oneCell') = true := by rw [hv1]; exact bodL_one _
  have R6 := R4.touch T6 (by omega)
  have B6 := B4.trans (T6.below B4.size (fun k hk => by omega))
  rw [← HE.out] at S6
  clear S4 R4 B4 S5 T5 T6 hw5 hw6 hv0 hv1 Hv0 Hv1
  have Hi0 := Lib.hid hi0
  have Hi1 := Lib.hid hi1
  have Ho0 := Lib.hid ho0
  have Ho1 := Lib.hid ho1
  have Ht0 := Lib.hid ht
  have Ht1 := Lib.hid ht2
  clear hi0 hi1 ho0 ho1 ht ht2
  go_upto_region 4 with (first
    | (refine wpList_store_midw (w := w4) (by rfl) 24 _ _ (by rfl) (w.heap.size + 1) 2 v0 (by rfl) (by rfl) Ht0.out Hi0.out Ho0.out w5 hw5'.out ?_)
    | (refine wpList_store_midw (w := w5) (by rfl) 24 _ _ (by rfl) (w.heap.size + 1) 9 v1 (by rfl) (by rfl) Ht1.out Hi1.out Ho1.out w6 hw6'.out ?_)
    | fail)
  obtain ⟨C9, LC9⟩ := let_of (newF seed)
  have hS9 := LC9.blk S6
  have hzs : Try.zeroCells31.size = C9.size := by rw [LC9.size, ← stA_zero]; exact stA_size _
  have hif := LC9.info
  have hone := LC9.one
  have HC9 := Lib.hid LC9.eq
  clear LC9 S6
  go_wp2_with (first | (refine wpList_load_blk (by rfl) 31 _ (by rfl) (w.heap.size + 1) (by rfl) _ C9 _ hS9 Try.underlying31 (by rfl) hif ?_) | (refine wpList_store_blk (by rfl) 31 _ _ (by rfl) w.heap.size C9 (by rfl) (by rfl) _ _ R6 hif hzs hone ?_; intro W6 hd6 ht6))
  refine bodyPost_ret (v := .agg C9) (results_blk Try.results37 _ _ w.heap.size _ _ _ (by rfl) hd6 Try.underlying31 (by rfl) hif) rfl ⟨by rw [HC9.out]; rfl, ?_⟩
  exact B6.trans (ht6.below B6.size (fun k hk => by omega))
end Go.Proofs.Ytlhoffhagfhbcaa.Gm
namespace Go.Proofs.Ytlhoffhagfhbcaa.Gm
open Go.RowKit Go.Sort Go.Proofs.Ytlhoffhagfhbcaa.Num
set_option linter.all false
attribute [local go_sem ↓] exec_st29

/-- 'b := ..' of a body: a block laid and stored whole. -/
theorem alloc_body (w : World) (L : List Value) (b : Body) (hL : L = bodL b) : ∃ W3, (storeCells ⟨w.heap.size, 0, none⟩ L).run Try.prog (w.alloc (.cells #[.int .i64 0, .int .i64 0, .int .i64 0, .int .i64 0, .int .i64 0, .int .i64 0, .int .i64 0] 24)) = .ok () W3 ∧ MB W3 w.heap.size b ∧ Below w.heap.size w W3 ∧ w.heap.size + 1 = W3.heap.size := by
  have hX : Blk (w.alloc (.cells #[.int .i64 0, .int .i64 0, .int .i64 0, .int .i64 0, .int .i64 0, .int .i64 0, .int .i64 0] 24)) w.heap.size 24 #[.int .i64 0, .int .i64 0, .int .i64 0, .int .i64 0, .int .i64 0, .int .i64 0, .int .i64 0] := Blk.new _ _ _
  subst hL
  have := run_storeCells_from (P := Try.prog) w.heap.size 24 (bodL b) 0 _ _ hX (by simp [bodL]) (fun v hv => (Array.all_eq_true_iff_forall_mem.1 (bodL_one b)) v (by simpa using hv))
  refine ⟨_, this, ?_, ?_, by simp⟩
  · exact hX.setRow _
  · exact ((Below.refl _ w).alloc (Nat.le_refl _) _).trans ((touch_setRow _ w.heap.size _).below (by simp) (fun k hk => by omega))

set_option maxRecDepth 100000 in
set_option maxHeartbeats 4000000 in
theorem rfire_any (w : World) (C : Array Value) (f : F) (i n : Nat) (LC : Let C f) (hi : i < 2) (hn : n < 65536) (hb : BodyOk (bod f (2 + i * 7))) :
    Calls Try.prog 108 #[.agg C, .int .i64 i, .int .u16 n] w fun e w' => ∃ C', Let C' (fireF f i n) ∧ e = .returned (.agg C') ∧ Below w.heap.size w w' := by
  obtain ⟨W1, hW1⟩ : ∃ W1, W1 = (w.alloc (.cells C 31)).alloc (.cells Try.zeroCells31 31) := ⟨_, rfl⟩
  have hS : SB W1 w.heap.size 31 f := by
    rw [hW1]
    exact (LC.sb (Blk.new w 31 C)).alloc _
  have hR : Blk W1 (w.heap.size + 1) 31 Try.zeroCells31 := by
    rw [hW1]
    have := Blk.new (w.alloc (.cells C 31)) 31 Try.zeroCells31
    simpa using this
  have hB : Below w.heap.size w W1 := by rw [hW1]; exact ((Below.refl _ w).alloc (Nat.le_refl _) _).alloc (by simp) _
  have hz : w.heap.size + 2 = W1.heap.size := by rw [hW1]; simp
  have pH := Lib.hid (fun W => has_any W n 16 hn (by omega) (by omega))
  have hc0 := hb.c0
  have hc1 := hb.c1
  have hy0 := hb.y0
  have hy1 := hb.y1
  have hfc : -1 ≤ (bod f (2 + i * 7)).facing ∧ (bod f (2 + i * 7)).facing ≤ 1 := by rcases hb.fc with e | e <;> omega
  have HF := Lib.hid (show fireF f i n = if 0 < (bod f (2 + i * 7)).cool then put f (2 + i * 7 + 5) ((bod f (2 + i * 7)).cool - 1)
    else if n / 16 % 2 = 1 ∧ freeK f < 8 then put (setS f (16 + freeK f * 6) (shotOf (bod f (2 + i * 7)) i)) (2 + i * 7 + 5) 15 else f from rfl)
  have hrB := hS.bodR hi
  have i1 : (0 : Int) ≤ (i : Int) := by omega
  have i2 : (i : Int) < 2 := by omega
  obtain ⟨b, hbb⟩ : ∃ b, bod f (2 + i * 7) = b := ⟨_, rfl⟩
  rw [hbb] at hc0 hc1 hy0 hy1 HF hfc hrB
  obtain ⟨Lb, hLb⟩ : ∃ Lb, Lb = bodL b := ⟨_, rfl⟩
  rw [← hLb] at hrB
  have hLs : Lb.length = 7 := by rw [hLb]; rfl
  have hiB : (Try.prog.info? 24).map (·.size) = some Lb.length := by rw [hLs]; exact infoB
  have HA := Lib.hid (fun W => alloc_body W Lb b hLb)
  have HS := Lib.hid hS
  have HR := Lib.hid hR
  have HB := Lib.hid hB
  have HI := Lib.hid hi
  have HZ := Lib.hid hz
  have HLC := Lib.hid LC
  clear hS hb hi hR hB hbb hLb hz LC
  go_enter Try.func108, Try.ntmps108
  go_upto_region 1 with fail
  rw [← hW1]
  clear hW1
  obtain ⟨W2, hrun, M2, b2, hz2⟩ := HA.out W1
  clear HA
  go_upto_region 2 with (refine wpList_load_mid (by rfl) 24 _ (by rfl) w.heap.size (2 + i * 7) (by rfl) Lb _ hrB Try.underlying24 (by rfl) hiB ?_)
  clear hrun hrB hiB hLs
  have hz := HZ.out
  have S2 := HS.out.below b2 HS.out.lt
  have R2 := HR.out.below b2 HR.out.lt
  have B2 := HB.out.trans (b2.mono (by omega))
  clear HS HR HB b2
  obtain ⟨gb, hgb⟩ : ∃ gb, gb = W1.heap.size := ⟨_, rfl⟩
  rw [← hgb] at M2 ⊢
  have hg1 : w.heap.size + 2 = gb := by omega
  clear hz hz2 hgb HZ
  have HS := Lib.hid S2
  have HR := Lib.hid R2
  have HB := Lib.hid B2
  have HM := Lib.hid M2
  have HG := Lib.hid hg1
  have c5 := M2.c5
  clear S2 R2 B2 M2 hg1
  by_cases h : 0 < b.cool
  · have HF2 := HF.out
    rw [if_pos h] at HF2
    have HF3 := Lib.hid HF2
    clear HF2 HF
    have S3 := HS.out.setInt (j := 2 + i * 7 + 5) (by have := HI.out; omega) (by omega) (by have := HI.out; omega) (b.cool - 1)
    have R3 := Blk.far HR.out (p := ⟨w.heap.size, 2 + i * 7 + 5, none⟩) (by simp) (.int .i64 (b.cool - 1))
    have B3 := HB.out.setCell (p := ⟨w.heap.size, 2 + i * 7 + 5, none⟩) (by simp) (.int .i64 (b.cool - 1))
    have f5 := HS.out.fr (2 + i * 7 + 5)
    have k5 := HS.out.int (j := 2 + i * 7 + 5) (by have := HI.out; omega) (by omega) (by have := HI.out; omega)
    have H3 := Lib.hid S3
    have HR3 := Lib.hid R3
    have HB3 := Lib.hid B3
    clear S3 R3 B3
    go_upto_region 4 with fail
    clear f5 k5 c5
    have S3 := H3.out
    rw [← HF3.out] at S3
    obtain ⟨C9, LC9⟩ := let_of (fireF f i n)
    have hS9 := LC9.blk S3
    have R9 := HR3.out
    have B9 := HB3.out
    have hzs : Try.zeroCells31.size = C9.size := by rw [LC9.size, ← stA_zero]; exact stA_size _
    have hif := LC9.info
    have hone := LC9.one
    have HC9 := Lib.hid LC9
    clear LC9
    go_wp2_with (first | (refine wpList_load_blk (by rfl) 31 _ (by rfl) w.heap.size (by rfl) _ C9 _ hS9 Try.underlying31 (by rfl) hif ?_) | (refine wpList_store_blk (by rfl) 31 _ _ (by rfl) (w.heap.size + 1) C9 (by rfl) (by rfl) _ _ R9 hif hzs hone ?_; intro W6 hd6 ht6) | fail)
    refine bodyPost_ret (v := .agg C9) (results_blk Try.results108 _ _ (w.heap.size + 1) _ _ _ (by rfl) hd6 Try.underlying31 (by rfl) hif) rfl ⟨C9, HC9.out, rfl, ?_⟩
    exact B9.trans (ht6.below B9.size (fun k hk => by omega))
  · have HF2 := HF.out
    rw [if_neg h] at HF2
    have HF3 := Lib.hid HF2
    clear HF2 HF
    go_upto_region 6 with fail
    go_loopw [8] (fun kv wr => ∃ k : Nat, k ≤ 8 ∧ kv = .int .i64 k ∧ (∀ j, j < k → f (16 + j * 6) ≠ 0) ∧ wr = W2) (fun kv _ => 8 - (intOf kv).toNat)
    case atStart => exact ⟨0, by omega, rfl, fun j hj => by omega, by first | trivial | rfl⟩
    case round =>
      obtain ⟨k, hk, rfl, hall, rfl⟩ := hrel
      by_cases hlt : k < 8
      · have k1 : (0 : Int) ≤ (k : Int) := by omega
        have k2 : (k : Int) < 8 := by omega
        have con := HS.out.on hlt
        by_cases hon : f (16 + k * 6) = 0
        · rw [onB_no hon] at con
          have hfree : freeK f = k := freeK_eq f k hk hall (fun _ => hon)
          by_cases hbt : n / 16 % 2 = 1
          · have e16 : decide (n / 16 % 2 = 1) = true := by rw [hbt]; rfl
            rw [e16] at pH
            have HF4 := HF3.out
            rw [hfree, if_pos ⟨hbt, hlt⟩] at HF4
            have HF5 := Lib.hid HF4
            have HK := Lib.hid hlt
            have hk8 : ((k : Int) == 8) = false := by simp; omega
            clear HF4 HF3 hfree hon hall hlt e16 hbt
            go_upto_region 8 with fail
            go_wp2_with fail
            refine (pH.out _).mono ?_
            rintro e w2 ⟨rfl, rfl⟩
            clear hk8 con
            have HSH := Lib.hid (show shotOf b i = ⟨1, b.x, hold (b.y + 65536), clampV b.facing (-1) 1 * 393216, i, 60⟩ from rfl)
            have hcl := clampV_in b.facing (a := -1) (b := 1) (by omega)
            have hcf : clampV b.facing (-1) 1 = b.facing := by unfold clampV; omega
            have m1 : (if b.facing < -1 then -1 else b.facing) = b.facing := by split <;> omega
            have m2 : (if 1 < b.facing then 1 else b.facing) = b.facing := by split <;> omega
            have c6 := HM.out.c6
            rw [hcf] at HSH
            clear hcl hcf c5
            go_upto_region 11 with fail
            clear c6 m1 m2
            have q1 : IntKind.i64.wrap (b.facing * 6) = b.facing * 6 := IntWalk.i64_in _ (by omega)
            have q2 : IntKind.i64.wrap (b.facing * 6 * 65536) = b.facing * 6 * 65536 := IntWalk.i64_in _ (by omega)
            have c0 := HM.out.c0
            have c1 := HM.out.c1
            have pA := Lib.hid (fun W => Num.add_any W b.y 65536 (by omega) (by omega) (by omega) (by omega))
            generalize hold (b.y + 65536) = yv at *
            have hs6 : ∀ W, RowKit.Below wr.heap.size wr W → ∃ W', storeR Try.prog 27 (.pointer (some ⟨w.heap.size, 16 + k * 6, none⟩)) (.agg #[.bool true, .int .i64 b.x, .int .i64 yv, .int .i64 (b.facing * 6 * 65536), .int .i64 i, .int .i64 60]) W = .ok .skip W' ∧ SB W' w.heap.size 31 (setS f (16 + k * 6) (shotOf b i)) ∧ MB W' gb b ∧ Blk W' (w.heap.size + 1) 31 Try.zeroCells31 ∧ RowKit.Below w.heap.size w W' := fun W hW => by
              have SW := HS.out.below hW HS.out.lt
              have T : Touch (fun k => k = w.heap.size) W (W.setCells w.heap.size (16 + k * 6) (shoL (shotOf b i))) := touch_setCells (S := fun k => k = w.heap.size) (Touch.refl _ _) _ (.inl rfl) _ _
              have BW := HB.out.trans (hW.mono HB.out.size)
              have hgg := HG.out
              refine ⟨W.setCells w.heap.size (16 + k * 6) (shoL (shotOf b i)), storeR_mid (SW.there (by have := HK.out; simp; omega)) infoS (by simp [Value.oneCell']) ?_, SW.setShot HK.out _, Blk.touch (HM.out.below hW (Blk.lt HM.out)) T (by omega), (HR.out.below hW HR.out.lt).touch T (by omega), BW.trans (T.below BW.size (fun k hk => by omega))⟩
              rw [HSH.out, show b.facing * 393216 = b.facing * 6 * 65536 by omega]
              rfl
            have HT := Lib.hid hs6
            clear hs6
            go_region_held3 (fun w' => w'.cell? ⟨gb, 0, none⟩ = some (.int .i64 b.x) ∧ w'.cell? ⟨gb, 1, none⟩ = some (.int .i64 b.y)) (first | exact ⟨c0, c1⟩ | exact ⟨k0, k1⟩ | exact ⟨l0, l1⟩)
              (first
                | (go_at_call 130; refine (pA.out _).mono ?_; rintro e w3 ⟨rfl, b3⟩; have b3' : RowKit.Below wr.heap.size wr w3 := ⟨b3.os, b3.tape, b3.output, b3.size, b3.block⟩; obtain ⟨w4, hst, S4, M4, R4, B4⟩ := HT.out _ b3'; have l0 := M4.c0; have l1 := M4.c1; have M3 := HM.out.below b3' (Blk.lt HM.out); have k0 := M3.c0; have k1 := M3.c1))
            have hi3 := HI.out
            have z5 := S4.int (j := 2 + i * 7 + 5) (by omega) (by omega) (by omega)
            have f5 := S4.fr (2 + i * 7 + 5)
            have S5 := S4.setInt (j := 2 + i * 7 + 5) (by omega) (by omega) (by omega) 15
            have R5 := Blk.far R4 (p := ⟨w.heap.size, 2 + i * 7 + 5, none⟩) (by simp) (.int .i64 15)
            have B5 := B4.setCell (p := ⟨w.heap.size, 2 + i * 7 + 5, none⟩) (by simp) (.int .i64 15)
            rw [← HF5.out] at S5
            have H5 := Lib.hid S5
            have HR5 := Lib.hid R5
            have HB5 := Lib.hid B5
            clear hst S4 M4 R4 B4 l0 l1 M3 k0 k1 HT pA c0 c1 q1 q2 b3 b3' hi3 S5 R5 B5 pH
            go_upto_region 13 with fail
            clear z5 f5
            obtain ⟨C9, LC9⟩ := let_of (fireF f i n)
            have hS9 := LC9.blk H5.out
            have R9 := HR5.out
            have B9 := HB5.out
            have hzs : Try.zeroCells31.size = C9.size := by rw [LC9.size, ← stA_zero]; exact stA_size _
            have hif := LC9.info
            have hone := LC9.one
            have HC9 := Lib.hid LC9
            clear LC9
            go_wp2_with (first | (refine wpList_load_blk (by rfl) 31 _ (by rfl) w.heap.size (by rfl) _ C9 _ hS9 Try.underlying31 (by rfl) hif ?_) | (refine wpList_store_blk (by rfl) 31 _ _ (by rfl) (w.heap.size + 1) C9 (by rfl) (by rfl) _ _ R9 hif hzs hone ?_; intro W6 hd6 ht6) | fail)
            refine bodyPost_ret (v := .agg C9) (results_blk Try.results108 _ _ (w.heap.size + 1) _ _ _ (by rfl) hd6 Try.underlying31 (by rfl) hif) rfl ⟨C9, HC9.out, rfl, ?_⟩
            exact B9.trans (ht6.below B9.size (fun k hk => by omega))
          · have e16 : decide (n / 16 % 2 = 1) = false := by simpa using hbt
            rw [e16] at pH
            have HF4 := HF3.out
            rw [if_neg (fun h => hbt h.1)] at HF4
            have HF5 := Lib.hid HF4
            clear HF4 HF3 hfree hon hall e16 hbt
            go_upto_region 8 with fail
            go_wp2_with fail
            refine (pH.out _).mono ?_
            rintro e w2 ⟨rfl, rfl⟩
            have S9 := HS.out
            rw [← HF5.out] at S9
            go_upto_region 9 with fail
            obtain ⟨C9, LC9⟩ := let_of (fireF f i n)
            have hS9 := LC9.blk S9
            have R9 := HR.out
            have B9 := HB.out
            have hzs : Try.zeroCells31.size = C9.size := by rw [LC9.size, ← stA_zero]; exact stA_size _
            have hif := LC9.info
            have hone := LC9.one
            have HC9 := Lib.hid LC9
            clear LC9
            go_wp2_with (first | (refine wpList_load_blk (by rfl) 31 _ (by rfl) w.heap.size (by rfl) _ C9 _ hS9 Try.underlying31 (by rfl) hif ?_) | (refine wpList_store_blk (by rfl) 31 _ _ (by rfl) (w.heap.size + 1) C9 (by rfl) (by rfl) _ _ R9 hif hzs hone ?_; intro W6 hd6 ht6) | fail)
            refine bodyPost_ret (v := .agg C9) (results_blk Try.results108 _ _ (w.heap.size + 1) _ _ _ (by rfl) hd6 Try.underlying31 (by rfl) hif) rfl ⟨C9, HC9.out, rfl, ?_⟩
            exact B9.trans (ht6.below B9.size (fun k hk => by omega))
        · rw [onB_yes hon] at con
          have HALL := Lib.hid (show ∀ j, j < k + 1 → f (16 + j * 6) ≠ 0 from fun j hj => by
            by_cases e : j = k
            · subst e; exact hon
            · exact hall j (by omega))
          clear hall hon
          go_wp2_with fail
          go_roundw
          case rel => exact ⟨k + 1, by omega, by go_num, HALL.out, by first | trivial | rfl⟩
          case measure => simp [intOf]; omega
      · obtain rfl : k = 8 := by omega
        have HF4 := HF3.out
        rw [if_neg (fun h => by have := freeK_free f h.2; exact hall _ h.2 this)] at HF4
        have HF5 := Lib.hid HF4
        clear HF4 hall HF3
        have S9 := HS.out
        rw [← HF5.out] at S9
        by_cases hbt : n / 16 % 2 = 1
        · have e16 : decide (n / 16 % 2 = 1) = true := by rw [hbt]; rfl
          rw [e16] at pH
          clear e16 hbt hlt
          go_upto_region 8 with fail
          go_wp2_with fail
          refine (pH.out _).mono ?_
          rintro e w2 ⟨rfl, rfl⟩
          go_upto_region 9 with fail
          obtain ⟨C9, LC9⟩ := let_of (fireF f i n)
          have hS9 := LC9.blk S9
          have R9 := HR.out
          have B9 := HB.out
          have hzs : Try.zeroCells31.size = C9.size := by rw [LC9.size, ← stA_zero]; exact stA_size _
          have hif := LC9.info
          have hone := LC9.one
          have HC9 := Lib.hid LC9
          clear LC9
          go_wp2_with (first | (refine wpList_load_blk (by rfl) 31 _ (by rfl) w.heap.size (by rfl) _ C9 _ hS9 Try.underlying31 (by rfl) hif ?_) | (refine wpList_store_blk (by rfl) 31 _ _ (by rfl) (w.heap.size + 1) C9 (by rfl) (by rfl) _ _ R9 hif hzs hone ?_; intro W6 hd6 ht6) | fail)
          refine bodyPost_ret (v := .agg C9) (results_blk Try.results108 _ _ (w.heap.size + 1) _ _ _ (by rfl) hd6 Try.underlying31 (by rfl) hif) rfl ⟨C9, HC9.out, rfl, ?_⟩
          exact B9.trans (ht6.below B9.size (fun k hk => by omega))
        · have e16 : decide (n / 16 % 2 = 1) = false := by simpa using hbt
          rw [e16] at pH
          clear e16 hbt hlt
          go_upto_region 8 with fail
          go_wp2_with fail
          refine (pH.out _).mono ?_
          rintro e w2 ⟨rfl, rfl⟩
          go_upto_region 9 with fail
          obtain ⟨C9, LC9⟩ := let_of (fireF f i n)
          have hS9 := LC9.blk S9
          have R9 := HR.out
          have B9 := HB.out
          have hzs : Try.zeroCells31.size = C9.size := by rw [LC9.size, ← stA_zero]; exact stA_size _
          have hif := LC9.info
          have hone := LC9.one
          have HC9 := Lib.hid LC9
          clear LC9
          go_wp2_with (first | (refine wpList_load_blk (by rfl) 31 _ (by rfl) w.heap.size (by rfl) _ C9 _ hS9 Try.underlying31 (by rfl) hif ?_) | (refine wpList_store_blk (by rfl) 31 _ _ (by rfl) (w.heap.size + 1) C9 (by rfl) (by rfl) _ _ R9 hif hzs hone ?_; intro W6 hd6 ht6) | fail)
          refine bodyPost_ret (v := .agg C9) (results_blk Try.results108 _ _ (w.heap.size + 1) _ _ _ (by rfl) hd6 Try.underlying31 (by rfl) hif) rfl ⟨C9, HC9.out, rfl, ?_⟩
          exact B9.trans (ht6.below B9.size (fun k hk => by omega))
end Go.Proofs.Ytlhoffhagfhbcaa.Gm
