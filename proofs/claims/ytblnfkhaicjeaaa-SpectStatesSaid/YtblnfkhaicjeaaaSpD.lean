/-
  Package spect: Tape.Bytes. Conditions: the inputs lie in memory, the table as New lays it.
-/
import Derived.Test.YtblnfkhaicjeaaaSpC
namespace Go.Proofs.Ytblnfkhaicjeaaa.Spe
open Go.RowKit Go.Shelf Go.Proofs.Ytblnfkhaicjeaaa.Byt Go.Proofs.Ytblnfkhaicjeaaa.Gm Go.Proofs.Ytblnfkhaicjeaaa.RingE Go.Proofs.Ytblnfkhaicjeaaa.Crc
set_option linter.all false
attribute [local go_sem] Oper.semAt_some

set_option maxRecDepth 100000 in
set_option maxHeartbeats 8000000 in
theorem tbytes_any (w : World) (g : Nat) (hT : Crc.Rows w g 256) (sd : Int) (a : Option Addr) (cap : Nat) (ls : List (Nat × Nat)) (hrow : InRow w a ls) (hl : ls.length ≤ 16384) (hs0 : 0 ≤ sd) (hs1 : sd < 4294967296) :
    Calls Try.prog 44 #[.agg #[.int .u32 sd, .slice a ls.length cap], .pointer (some ⟨g, 0, none⟩)] w fun e w' => ∃ v, e = .returned (.tuple #[v, .int .i64 0]) ∧ On w' 5 1 v ((tapeB sd ls).length + 4) (ub (sealB (tapeB sd ls))) ∧ Below w.heap.size w w' ∧ (∀ g, v.ownBlock = some g → w.heap.size ≤ g) := by
  have h1 : ¬ (16384 : Int) < (ls.length : Int) := by omega
  refine calls_of_wp_marks 9 Try.func44 rfl ?_
  simp only [Try.ntmps44, List.size_toArray, List.length_cons, List.length_nil, Nat.reduceAdd, Nat.reduceSub, Array.replicate_succ, Array.replicate_zero, List.push_toArray, List.append_toArray, List.nil_append, List.cons_append]
  obtain ⟨W1, hW1⟩ : ∃ W1, W1 = w.alloc (.cells #[.int .u32 sd, .slice a ls.length cap] 89) := ⟨_, rfl⟩
  have hX : Blk W1 w.heap.size 89 #[.int .u32 sd, .slice a ls.length cap] := by rw [hW1]; exact Blk.new _ _ _
  have hB : Below w.heap.size w W1 := by rw [hW1]; exact (Below.refl _ w).alloc (Nat.le_refl _) _
  have hz1 : W1.heap.size = w.heap.size + 1 := by rw [hW1]; simp
  have q1 : W1.cell? ⟨w.heap.size, 1, none⟩ = some (.slice a ls.length cap) := hX.cell 1
  go_upto_region 1 with fail
  rw [← hW1]
  clear hW1
  go_upto_region 3 with fail
  have hG0 : Grow W1 (.slice none 0 0) [] W1 := ⟨Out.nil _, Below.refl _ _, fun k hk => by simp [Value.ownBlock] at hk⟩
  have q0 : W1.drew.cell? ⟨w.heap.size, 0, none⟩ = some (.int .u32 sd) := hX.cell 0
  have hXl := hX.lt
  have GA := hG0.drew
  have GB := (hG0.alloc (.cells #[.slice none 0 0] 40)).drew
  have TB : Blk (W1.alloc (.cells #[.slice none 0 0] 40)).drew W1.heap.size 40 #[.slice none 0 0] := (Blk.new W1 _ _).drew
  have p1' : ∀ W, Grow W1 (.slice none 0 0) [] W → Calls Try.prog 91 #[.slice none 0 0, .int .u16 16980] W fun e w' => ∃ a c, e = .returned (.slice a 2 c) ∧ Grow W1 (.slice a 2 c) (be2 16980) w' ∧ Touch (OwnB (.slice none 0 0)) W w' := fun W h => put16_grow W1 W _ [] 16980 h (by simp) (by omega) (by omega)
  have p2' : ∀ W v, Grow W1 v (be2 16980) W → Calls Try.prog 57 #[v, .int .u32 sd] W fun e w' => ∃ a c, e = .returned (.slice a 6 c) ∧ Grow W1 (.slice a 6 c) (be2 16980 ++ be4 sd) w' ∧ Touch (OwnB v) W w' := fun W v h => put32_grow W1 W v (be2 16980) sd h (by simp [be2]) hs0 hs1
  have p1 := Lib.hid p1'
  have p2 := Lib.hid p2'
  clear p1' p2'
  have HX := Lib.hid hX
  have sd0 : ∀ v xs W, Grow W1 v xs W → W.cell? ⟨w.heap.size, 0, none⟩ = some (.int .u32 sd) := fun v xs W h => (h.blk HX.out).cell 0
  have SD0 := Lib.hid sd0
  have HZ1 := Lib.hid hz1
  clear hX sd0 hG0 hz1
  go_cut [6] from 6 to 16 (fun p wx => ∃ (t : Nat) (a3 : Option Addr) (c3 : Nat), p = .pointer (some ⟨t, 0, none⟩) ∧ W1.heap.size ≤ t ∧ Blk wx t 40 #[.slice a3 6 c3] ∧ Grow W1 (.slice a3 6 c3) (be2 16980 ++ be4 sd) wx)
  case first =>
    go_region_held3 (fun w' => w'.cell? ⟨w.heap.size, 0, none⟩ = some (.int .u32 sd)) (first | exact q0 | with_reducible exact SD0.out _ _ _ GA | with_reducible exact SD0.out _ _ _ GB | with_reducible exact SD0.out _ _ _ G2 | with_reducible exact SD0.out _ _ _ (G2.alloc _) | with_reducible exact SD0.out _ _ _ G3 | with_reducible exact SD0.out _ _ _ (G3.alloc _) | with_reducible exact SD0.out _ _ _ (G3.set T3 (by decide) (Nat.le_refl _) _ _) | with_reducible exact SD0.out _ _ _ (G3.set T3 (by decide) G2.below.size _ _) | with_reducible exact SD0.out _ _ _ ((G3.alloc _).set (Blk.new w3 40 #[.slice none 0 0]) (by decide) G3.below.size _ _) | fail "no keep")
      (first
        | (go_at_call 91; (with_reducible refine (p1.out _ GA).mono ?_); rintro e w2 ⟨a2, c2, rfl, G2, t2⟩)
        | (go_at_call 91; (with_reducible refine (p1.out _ GB).mono ?_); rintro e w2 ⟨a2, c2, rfl, G2, t2⟩; have T2 := Blk.touch TB t2 (noOwn _); have cT := Blk.cell T2 0; have fT := Blk.frozen T2 0)
        | (go_at_call 57; (with_reducible refine (p2.out _ _ (G2.alloc _)).mono ?_); rintro e w3 ⟨a3, c3, rfl, G3, t3⟩; have T3 := Blk.touch (Blk.new w2 40 #[.slice none 0 0]) t3 (Grow.notOwn (G2.alloc _) (Blk.new w2 40 #[.slice none 0 0]) (by decide)); have cT := Blk.cell T3 0; have fT := Blk.frozen T3 0)
        | (go_at_call 57; (with_reducible refine (p2.out _ _ G2).mono ?_); rintro e w3 ⟨a3, c3, rfl, G3, t3⟩; (try (have T3 := Blk.touch T2 t3 (Grow.notOwn G2 T2 (by decide)); have cT := Blk.cell T3 0; have fT := Blk.frozen T3 0)))
        | fail "no arm")
    · go_wp2_with fail
      go_meet
      exact ⟨_, a3, c3, rfl, G3.below.size, Blk.new w3 _ _, G3.alloc _⟩
    · go_wp2_with fail
      go_meet
      exact ⟨_, a3, c3, rfl, G2.below.size, blk_set0 T3 _, G3.set T3 (by decide) G2.below.size _ _⟩
    · go_wp2_with fail
      go_meet
      exact ⟨_, a3, c3, rfl, Nat.le_refl _, blk_set0 T3 _, G3.set T3 (by decide) (Nat.le_refl _) _ _⟩
  case rest =>
    obtain ⟨t, a3, c3, rfl, htz, hTB, hG⟩ := hcut
    have HTZ := Lib.hid htz
    clear p1 p2 SD0 GA GB TB q0
    have hlw : IntKind.u32.wrap (ls.length : Int) = (ls.length : Int) := by simp [IntKind.wrap, IntKind.bits, IntKind.signed]; omega
    have tc := hTB.cell 0
    have x1 : wc.cell? ⟨w.heap.size, 1, none⟩ = some (.slice a ls.length cap) := (hG.blk HX.out).cell 1
    have p3' : ∀ W, Grow W1 (.slice a3 6 c3) (be2 16980 ++ be4 sd) W → Calls Try.prog 57 #[.slice a3 6 c3, .int .u32 (ls.length : Int)] W fun e w' => ∃ a c, e = .returned (.slice a 10 c) ∧ Grow W1 (.slice a 10 c) (headB sd ls.length) w' ∧ Touch (OwnB (.slice a3 6 c3)) W w' := fun W h => by
      have := put32_grow W1 W (.slice a3 6 c3) (be2 16980 ++ be4 sd) (ls.length : Int) h (by simp [be2, be4]) (by omega) (by omega)
      exact this
    have p3 := Lib.hid p3'
    have HG := Lib.hid hG
    have HTB := Lib.hid hTB
    clear p3' hG hTB
    go_upto_region 5 with (first | (go_at_call 57; (with_reducible refine (p3.out _ HG.out).mono ?_); rintro e w4 ⟨a4, c4, rfl, G4, t4⟩; have T4 := Blk.touch HTB.out t4 (Grow.notOwn HG.out HTB.out (by decide)); have cT := Blk.cell T4 0; have fT := Blk.frozen T4 0) | fail)
    obtain ⟨W5, hW5⟩ : ∃ W5, W5 = w4.setCell ⟨t, 0, none⟩ (.slice a4 10 c4) := ⟨_, rfl⟩
    have G5 := G4.set T4 (by decide) htz (.slice a4 10 c4) 0
    have T5 := blk_set0 T4 (.slice a4 10 c4)
    rw [← hW5] at G5 T5
    rw [← hW5]
    have X5 : Blk W5 w.heap.size 89 #[.int .u32 sd, .slice a ls.length cap] := G5.blk HX.out
    have y0 := X5.cell 0
    have y1 := X5.cell 1
    have pr := Lib.hid (runs_any W5 sd a ls.length cap)
    clear cT fT T4 t4 G4 hW5 p3 HG HTB x1 tc hlw q1 htz
    go_wp2_with (first | (refine pr.out.mono ?_; rintro e w' ⟨rfl, rfl⟩) | fail)
    refine (wpIn_wide (n := 9)).1 ?_
    obtain ⟨V2, hV2⟩ : ∃ V2, V2 = W5.alloc (.cells #[.int .u32 sd, .slice a ls.length cap] 89) := ⟨_, rfl⟩
    rw [← hV2]
    obtain ⟨tb, htb⟩ : ∃ tb, tb = W5.heap.size := ⟨_, rfl⟩
    rw [← htb]
    have HTB := Lib.hid htb
    have hz2 : V2.heap.size = tb + 1 := by rw [hV2, htb]; simp
    have R2 : RB W1 t tb #[.int .u32 sd, .slice a ls.length cap] (.slice a4 10 c4) (headB sd ls.length) V2 := by
      rw [hV2, htb]
      exact ⟨T5.alloc _, G5.alloc _, Blk.new _ _ _⟩
    have hBV : Below w.heap.size w V2 := hB.trans (R2.grow.below.mono (Nat.le_of_lt hXl))
    have hrow2 : InRow V2 a ls := inRow_pre hrow hBV
    have hbd := runAt_bounds hrow.1
    have hwz : w.heap.size ≤ W1.heap.size := Nat.le_of_lt hXl
    obtain ⟨K, hK⟩ : ∃ K : Nat → Prop, K = fun k => k < W1.heap.size ∨ k = tb := ⟨_, rfl⟩
    have hsz : W1.heap.size ≤ tb := by rw [htb]; exact G5.below.size
    have kin : ∀ k, K k → k < V2.heap.size := fun k hk => by rw [hK] at hk; rcases hk with h | h <;> omega
    have hbn := runs_nat tb K sd a cap ls V2 kin R2.box hrow2 (by rw [hK]; exact .inr rfl) (fun h0 b hb => by rw [hK]; exact .inl (Nat.lt_of_lt_of_le (inRow_lt hrow h0 b hb) hwz)) (by omega)
    clear htb
    have hrl : (runsL ls).length ≤ 16384 := Nat.le_trans (runsL_len _ ls (Nat.le_refl _)) hl
    obtain ⟨N, hN⟩ : ∃ N, N = (runsL ls).length := ⟨_, rfl⟩
    rw [← hN] at hbn hrl
    obtain ⟨bx, hbx⟩ : ∃ bx : Array Value, bx = #[.int .u32 sd, .slice a ls.length cap] := ⟨_, rfl⟩
    rw [← hbx] at R2
    obtain ⟨I, hI⟩ : ∃ I : List Nat → World → Prop, I = fun pre W => (∃ zs a' c', RB W1 t tb bx (.slice a' zs.length c') zs W ∧ zs.length ≤ 10 + 5 * pre.length ∧ (pre = List.range pre.length → pre.length ≤ N → zs = preB sd ls pre.length)) ∧ V2.heap.size ≤ W.heap.size := ⟨_, rfl⟩
    have hown1 : OwnFrom V2.heap.size I := by
      rw [hI]
      rintro pre A B row ⟨⟨zs, a', c', hr, h1, h2⟩, hz⟩ hg hrow
      exact ⟨⟨zs, a', c', hr.own hg (fun r e => ⟨by have := (hrow r e).1; omega, (hrow r e).2⟩), h1, h2⟩, Nat.le_trans hz hg.size⟩
    have h00 : I [] V2 := by
      rw [hI]
      refine ⟨⟨headB sd ls.length, a4, c4, R2, by simp [headB, be2, be4], fun _ _ => (preB_zero sd ls).symm⟩, Nat.le_refl _⟩
    refine' wpIn_rangeFunc_ownH (F := Fence.wide) (n := 9) rfl (by omega) (gf := 126) (lb := #[.pointer (some ⟨tb, 0, none⟩)]) rfl trivial (enters_of Try.func126 (by kernel_rfl) rfl)
      hbn keepB_t (keepB_b (m := V2.heap.size) kin) (Below.refl _ _) (fun _ => rfl)
      I (fun _ _ _ => False) hown1 (fun c s A B row hs hg hr => hs) h00
      (fun x a' V => ∃ b, V2.heap.size ≤ b ∧ Blk V b 48 #[.int .u16 ((runAt ls x).2.1 : Int), .int .u16 ((runAt ls x).2.2 : Int)] ∧ a' = { defers := [], tmps := #[Value.agg #[Value.int IntKind.u32 sd, Value.slice a ls.length cap],
          Value.pointer (some { block := g, off := 0 }), Value.pointer (some { block := w.heap.size, off := 0 }), undef,
          Value.slice none 0 0, Value.int IntKind.i64 0, Value.pointer (some { block := t, off := 0 }), .int .i64 ((runAt ls x).1 : Int), .pointer (some ⟨b, 0, none⟩), u9, u10,
          u11, u12, u13, u14, u15, u16, Value.slice a3 6 c3, Value.pointer (some { block := w.heap.size, off := 1 }),
          Value.slice a ls.length cap, Value.int IntKind.i64 ↑ls.length, Value.int IntKind.u32 ↑ls.length,
          Value.slice a4 10 c4, Value.agg #[Value.int IntKind.u32 sd, Value.slice a ls.length cap],
          Value.func (Fn.func 126) #[] #[Value.pointer (some { block := tb, off := 0 })], .int .i64 ((runAt ls x).1 : Int), .agg #[.int .u16 ((runAt ls x).2.1 : Int), .int .u16 ((runAt ls x).2.2 : Int)], undef,
          undef, undef, undef, undef, undef, undef, undef, undef, undef, undef, undef, undef, undef, undef] })
      (fun x a' s A B row hs hg hr => by
        obtain ⟨b, h1, h3, h4⟩ := hs
        exact ⟨b, h1, blk_own h3 hg (fun r e => (hr r e).2), h4⟩) ?assign ?body ?done ?stop
    case assign =>
      rintro lo2 pre x U Kk hU hKk
      dsimp only [encR] at hKk ⊢
      have hu := hU
      rw [hI] at hu
      have huz := hu.2
      have hb3 : Below U.heap.size U (U.alloc (.cells #[.int .u16 ((runAt ls x).2.1 : Int), .int .u16 ((runAt ls x).2.2 : Int)] 48)) := (Below.refl _ U).alloc (Nat.le_refl _) _
      have hfin := hKk _ (U.alloc (.cells #[.int .u16 ((runAt ls x).2.1 : Int), .int .u16 ((runAt ls x).2.2 : Int)] 48)) (below_from hb3) (below_keepB hb3 (fun k hk => Nat.lt_of_lt_of_le (kin k hk) huz)) (hown1 pre U _ none hU ⟨hb3.os, hb3.tape, hb3.output, hb3.size, fun k hk _ => hb3.block k hk⟩ (fun r e => by cases e)) ⟨U.heap.size, huz, Blk.new _ _ _, rfl⟩
      clear hu huz hb3 hown1 h00 hbn hU hKk hI
      gi_wp2
      exact hfin
    case stop =>
      rintro D c pre U hD _ hf
      exact hf.elim
    case body =>
      rintro lo2 pre x a' U hlo hrec hU ⟨b, hbz, hb, rfl⟩ hlt
      rw [hI] at hU
      obtain ⟨⟨zs, av, cv, hr, hy1, hy2⟩, huz⟩ := hU
      obtain ⟨n, hn⟩ : ∃ n, n = (runAt ls x).1 := ⟨_, rfl⟩
      obtain ⟨p, hp⟩ : ∃ p, p = (runAt ls x).2.1 := ⟨_, rfl⟩
      obtain ⟨q, hq⟩ : ∃ q, q = (runAt ls x).2.2 := ⟨_, rfl⟩
      have hbp := hbd x
      rw [← hp, ← hq] at hbp
      rw [← hp, ← hq] at hb
      rw [← hn, ← hp, ← hq]
      have hzl : zs.length ≤ 100000 := by omega
      have hwr : IntKind.u8.wrap (n : Int) = ((n : Int) % 256) := by simp [IntKind.wrap, IntKind.bits, IntKind.signed]
      have hd0 := Rd.start (B := V2.heap.size) hr hb HTZ.out
      have c0 := hr.sl.cell 0
      have hd1 := hd0.alloc (.cells #[.int .u8 ((n : Int) % 256)] 5)
      obtain ⟨i0, hi, hz0, hz1, hz3⟩ := info_parts info8
      have HD1 := Lib.hid hd1
      have HY := Lib.hid hy2
      have HN := Lib.hid hn
      have HP := Lib.hid hp
      have HQ := Lib.hid hq
      have HFIN : Hid (∀ a' c' W, Rd W1 V2.heap.size t tb b bx #[.int .u16 (p : Int), .int .u16 (q : Int)] U (.slice a' (zs.length + 5) c') (.slice a' (zs.length + 5) c') (zs ++ [(n : Int) % 256] ++ be2 (p : Int) ++ be2 (q : Int)) W → KeepsFrom V2.heap.size U W ∧ KeepB K U W ∧ I (pre ++ [x]) W) := Lib.hid (fun a' c' W h => by
        have hl5 : (zs ++ [(n : Int) % 256] ++ be2 (p : Int) ++ be2 (q : Int)).length = zs.length + 5 := by simp [be2]
        refine ⟨h.kf, by rw [hK]; exact h.kb, ?_⟩
        rw [hI]
        refine ⟨⟨zs ++ [(n : Int) % 256] ++ be2 (p : Int) ++ be2 (q : Int), a', c', by rw [hl5]; exact h.rb, by rw [hl5, List.length_append, List.length_singleton]; omega, fun hg hle => ?_⟩, Nat.le_trans huz h.kf.size⟩
        obtain ⟨g1, g2⟩ := range_snoc hg
        rw [List.length_append, List.length_singleton] at hle ⊢
        have hzs := hy2 g1 (by omega)
        rw [preB_succ sd ls pre.length (by omega), ← hzs, ← g2]
        unfold runB
        rw [← hn, ← hp, ← hq]
        simp only [List.append_assoc])
      have HI' := Lib.hid hI
      clear hd1 hd0 hr hb hy2 hn hp hq hI hown1 h00 hbn hrow2 hbx R2 hrec y0 y1 X5
      gi_wp2_with (gi_at_builtin; refine wpListIn_append_on _ (by rfl) _ _ 40 (by rfl) 5 i0 _ 1 1 Try.underlying40 hi hz0 hz1 hz3 (by rfl) (by omega) (.slice av zs.length cv) zs.length (ub zs) (by rfl) HD1.out.grow.out (some ⟨U.heap.size, 0, none⟩) 1 1 (ub [((n : Int) % 256)]) (by rfl) (by rfl) (src_new U 5 1 (ub [((n : Int) % 256)])) (ub_one _) (by simp only [maxLen]; omega) (by omega) ?_; intro v1 w1 hon hg1 hv1; have HD2 := Lib.hid (Rd.app HD1.out (out_snoc (ys := [(n : Int) % 256]) hon) hg1 hv1); obtain ⟨a1, c1, hv2, -, -⟩ := On.slice hon; subst hv2; have cT := HD2.out.sl.cell 0; have fT := HD2.out.sl.frozen 0; clear hon hg1 hv1)
      obtain ⟨W3, hW3⟩ : ∃ W3, W3 = w1.setCell ⟨t, 0, none⟩ (.slice a1 (zs.length + 1) c1) := ⟨_, rfl⟩
      have hd3 := HD2.out.store
      rw [← hW3] at hd3
      rw [← hW3]
      have pA' : ∀ W, Grow W1 (.slice a1 (zs.length + 1) c1) (zs ++ [(n : Int) % 256]) W → Calls Try.prog 91 #[.slice a1 (zs.length + 1) c1, .int .u16 (p : Int)] W fun e w' => ∃ a c, e = .returned (.slice a (zs.length + 3) c) ∧ Grow W1 (.slice a (zs.length + 3) c) (zs ++ [(n : Int) % 256] ++ be2 (p : Int)) w' ∧ Touch (OwnB (.slice a1 (zs.length + 1) c1)) W w' := fun W h => by
        have := put16_grow W1 W (.slice a1 (zs.length + 1) c1) (zs ++ [(n : Int) % 256]) (p : Int) h (by simp; omega) (by omega) (by omega)
        rw [List.length_append, show zs.length + [(n : Int) % 256].length + 2 = zs.length + 3 from rfl] at this
        exact this
      have pB' : ∀ W a c, Grow W1 (.slice a (zs.length + 3) c) (zs ++ [(n : Int) % 256] ++ be2 (p : Int)) W → Calls Try.prog 91 #[.slice a (zs.length + 3) c, .int .u16 (q : Int)] W fun e w' => ∃ a' c', e = .returned (.slice a' (zs.length + 5) c') ∧ Grow W1 (.slice a' (zs.length + 5) c') (zs ++ [(n : Int) % 256] ++ be2 (p : Int) ++ be2 (q : Int)) w' ∧ Touch (OwnB (.slice a (zs.length + 3) c)) W w' := fun W a c h => by
        have := put16_grow W1 W (.slice a (zs.length + 3) c) (zs ++ [(n : Int) % 256] ++ be2 (p : Int)) (q : Int) h (by simp [be2]; omega) (by omega) (by omega)
        rw [List.length_append, List.length_append, show zs.length + [(n : Int) % 256].length + (be2 (p : Int)).length + 2 = zs.length + 5 from rfl] at this
        exact this
      have pA := Lib.hid pA'
      have pB := Lib.hid pB'
      have hd4 := hd3.drew
      have HD3 := Lib.hid hd3
      have HD4 := Lib.hid hd4
      have z0 := hd3.sl.cell 0
      have i0' := hd3.inp.cell 0
      have i1' := hd3.inp.cell 1
      clear pA' pB' hd3 hd4 hW3 HD1 HD2 cT fT c0 hwr
      gi_region_with
        (first
          | (refine And.intro (show Fence.wide.fn _ from trivial) ?_; gi_at_call 91; (with_reducible refine (CallsIn.inRound lo2 ((callsIn_wide (n := _)).2 (pA.out _ HD4.out.grow))).mono ?_); rintro e w2 ⟨a2, c2, rfl, G2, t2⟩; have HD5 := Lib.hid (HD4.out.put G2 t2); have i1' := HD5.out.inp.cell 1)
          | (refine And.intro (show Fence.wide.fn _ from trivial) ?_; gi_at_call 91; (with_reducible refine (CallsIn.inRound lo2 ((callsIn_wide (n := _)).2 (pB.out _ _ _ HD5.out.grow))).mono ?_); rintro e w3 ⟨a3, c3, rfl, G3, t3⟩; have HD6 := Lib.hid (HD5.out.put G3 t3); have cT := HD6.out.sl.cell 0; have fT := HD6.out.sl.frozen 0)
          | fail)
      all_goals
        gi_wp2
        exact HFIN.out _ _ _ HD6.out.store
    case done =>
      rintro D ys U hD rfl hU hdef
      rw [hI] at hU
      obtain ⟨⟨zs, av, cv, hr, hy1, hy2⟩, huz⟩ := hU
      have hzs : zs = tapeB sd ls := by
        have := hy2 (by simp) (by simp)
        rw [List.length_range, hN, preB_all] at this
        exact this
      rw [List.length_range] at hy1
      have hz5 : zs.length ≤ 1000000 := by omega
      obtain ⟨a6, c6, hv6, hrow6⟩ := out_row hr.grow.out
      have hbw : Below w.heap.size w U := hB.trans (hr.grow.below.mono hwz)
      have hwU : w.heap.size ≤ U.heap.size := hbw.size
      cases hv6
      have pS := Lib.hid (cseal_any U g ((hT.below hbw)) av zs.length cv zs hrow6 (by rw [hzs]; exact tapeB_byte sd ls) hz5)
      have c0 := hr.sl.cell 0
      have HZ := Lib.hid hzs
      have HBW := Lib.hid hbw
      have HWU := Lib.hid hwU
      have HDF := Lib.hid hdef
      clear hzs hbw hwU hy2 hr hrow6 hI hown1 h00 hbn hrow2 hbx R2 y0 y1 X5 hdef hT
      go_wp2_with (first | (go_at_call 93; refine pS.out.mono ?_; rintro e w6 ⟨v6, rfl, on6, b6, ow6⟩) | fail)
      have hdef' : w6.heap[D]? = some (Obj.deferred (some [])) := (b6.block D (Array.getElem?_eq_some_iff.1 HDF.out).1).trans HDF.out
      have hDw : w.heap.size ≤ D := Nat.le_trans hBV.size hD
      refine ⟨by simp, .inl ⟨_, _, rfl, run_takeDeferred hdef', ?_⟩⟩
      refine ⟨.tuple #[v6, .int .i64 0], ?_, v6, rfl, ?_, (HBW.out.trans (b6.mono HWU.out)).trans (belowK_b (w := w) (Nat.le_refl _) _ D _ _ hDw hdef' rfl rfl), fun g' hg' => Nat.le_trans HWU.out (ow6 g' hg')⟩
      · simp [results, Try.f44, go_sem]
      · rw [← HZ.out]
        exact on_own on6 (grownBy_putObj' w6 D _) (fun r e => by cases e; exact ⟨_, hdef', rfl⟩)
end Go.Proofs.Ytblnfkhaicjeaaa.Spe
