/-
  Texts joined: DfL, DfM, DfN. No condition.
-/
import Derived.Test.YtlhoffhagfhbcaaBDiff20
namespace Go.Proofs.Ytlhoffhagfhbcaa.Dif
open Go.RowKit Go.Shelf Go.Sort Go.Proofs.Ytlhoffhagfhbcaa.Byt Go.Proofs.Ytlhoffhagfhbcaa.Gm Go.Proofs.Ytlhoffhagfhbcaa.Num Go.Proofs.Ytlhoffhagfhbcaa.Spe
set_option linter.all false
attribute [local go_sem] Oper.semAt_some

theorem bd_put {B b : Nat} {S : ByteArray} {W : World} {l : Nat} {r : Loop} {o : Obj} (h : Bd B b S W) (hl : W.heap[l]? = some (.loop r)) : Bd B b S (W.putObj l o) := by
  have key : ∀ p, Lib.BuilderAtF 108 5 B b p (Lib.strCells S) W → Lib.BuilderAtF 108 5 B b p (Lib.strCells S) (W.putObj l o) := fun p h => by
    obtain ⟨hB, v, hbk, hown, hne⟩ := h
    refine ⟨hB, v, (World.putObj_heap_other (fun e => by rw [e, hl] at hbk; cases hbk)).trans hbk, ⟨hown.1, ?_⟩, hne⟩
    rcases hown.2 with h | ⟨g, cap, cur, fz, hv, hBg, hg, r⟩
    · exact .inl h
    · exact .inr ⟨g, cap, cur, fz, hv, hBg, (World.putObj_heap_other (fun e => by rw [e, hl] at hg; cases hg)).trans hg, r⟩
  exact h.imp (key _) (key _)
theorem bd_drew {B b : Nat} {S : ByteArray} {W : World} (h : Bd B b S W) : Bd B b S W.drew := h
/-- A text is written behind what the builder holds. -/
theorem Bd.lt {B b : Nat} {S : ByteArray} {W : World} (h : Bd B b S W) : b < W.heap.size := h.elim (fun h => h.lt) (fun h => h.lt)

theorem new_two (W : World) (A B : Array Value) (t : TypeId) : Blk ((W.alloc (.cells A t)).alloc (.cells B t)).drew W.heap.size t A ∧ Blk ((W.alloc (.cells A t)).alloc (.cells B t)).drew (W.heap.size + 1) t B ∧ Bw W ((W.alloc (.cells A t)).alloc (.cells B t)).drew := by
  refine ⟨(Blk.new W _ _).alloc _, ?_, Bw.dr (Bw.al (Bw.one W _) _)⟩
  have := Blk.new (W.alloc (.cells A t)) t B
  rw [World.size_alloc] at this
  exact this
theorem lineS_pos (s : ByteArray) (l : List Int) : 0 < (lineS s l).size := by rw [lineS, ByteArray.size_append, show nlS.size = 1 from rfl]; omega
theorem fold_pos (f g : F) : ∀ (D : List Nat) (S : ByteArray), S.size ≤ (foldD f g S D).size
  | [], S => by simp [foldD]
  | i :: D, S => by
    have h1 := fold_pos f g D (S ++ dLine f g i)
    rw [ByteArray.size_append] at h1
    have : foldD f g S (i :: D) = foldD f g (S ++ dLine f g i) D := rfl
    rw [this]; omega
theorem KeepX.mono {X Y : Nat → Prop} {A C : World} (h : KeepX X A C) (hxy : ∀ k, X k → Y k) : KeepX Y A C := ⟨h.1, fun k hk hx hn => h.2 k hk (fun hx' => hx (hxy k hx')) hn⟩
theorem KeepX.from_ {X : Nat → Prop} {A C : World} {B : Nat} (h : KeepX X A C) (hX : ∀ k, B ≤ k → ¬ X k) : KeepsFrom B A C :=
  ⟨h.1, fun k o hk ho hc => (h.2 k (lt_of_heap ho) (hX k hk) (fun cs fz e => by rw [ho] at e; cases e; cases hc)).trans ho⟩
theorem keepX_put (X : Nat → Prop) (W : World) (l : Nat) (o : Obj) (hX : X l) : KeepX X W (W.putObj l o) := ⟨by simp, fun k _ hx _ => World.putObj_heap_other (fun e => hx (e ▸ hX))⟩
/-- A builder with a text; of what lay ahead of it nothing has turned. -/
structure TB (bb : Nat) (W0 : World) (S : ByteArray) (V : World) : Prop where
  bd : Bd bb bb S V
  below : Below bb W0 V
theorem TB.size {bb : Nat} {W0 V : World} {S : ByteArray} (h : TB bb W0 S V) : bb ≤ V.heap.size := Nat.le_of_lt h.bd.lt
theorem TB.go {bb : Nat} {W0 V V' : World} {S : ByteArray} (h : TB bb W0 S V) (b : Bw V V') : TB bb W0 S V' := ⟨bd_keep h.bd b, Below.trans h.below (Below.mono b h.size)⟩
theorem TB.put {bb : Nat} {W0 V : World} {S : ByteArray} (h : TB bb W0 S V) {l : Nat} {r : Loop} (hl : V.heap[l]? = some (.loop r)) (hbl : bb ≤ l) (o : Obj) : TB bb W0 S (V.putObj l o) := ⟨bd_put h.bd hl, Below.trans h.below (belowB_put hbl V o)⟩
theorem TB.write {bb : Nat} {W0 V : World} {S : ByteArray} (h : TB bb W0 S V) (s : ByteArray) (hsz : S.size + s.size ≤ 1000000000) :
    Calls Try.prog 62 #[.pointer (some ⟨bb, 0, none⟩), .string s] V fun e w' => e = .returned (.tuple #[.int .i64 s.size, .nilIface]) ∧ TB bb W0 (S ++ s) w' ∧ KeepX (· = bb) V w' :=
  (write_any bb bb S s V h.bd (by omega) h.size).mono (fun e w' ⟨h1, h2, h3, h4⟩ => ⟨h1, ⟨h2, Below.trans h.below h3⟩, h4⟩)

set_option maxRecDepth 100000 in
set_option maxHeartbeats 8000000 in
theorem tell_any (w : World) (sd so : Nat) (hs : sd < 4294967296) (ho : so < 4294967296) (a b : Option Addr) (ca cb : Nat) (ls os : List (Nat × Nat)) (hra : InRow w a ls) (hrb : InRow w b os) (hl : ls.length ≤ 20000) (hm : os.length ≤ 20000) (hla : ls.length ≤ ca) (hlb : os.length ≤ cb) (hca : ca ≤ 9223372036854775807) (hcb : cb ≤ 9223372036854775807) (hna : a = none → ca = 0) (hnb : b = none → cb = 0) :
    Calls Try.prog 20 #[.agg #[.int .u32 (sd : Int), .slice a ls.length ca], .agg #[.int .u32 (so : Int), .slice b os.length cb]] w fun e w' => e = .returned (.string (tellV sd ls so os)) ∧ Below w.heap.size w w' := by
  refine calls_of_wp_marks 9 Try.func20 rfl ?_
  simp only [Try.ntmps20, List.size_toArray, List.length_cons, List.length_nil, Nat.reduceAdd, Nat.reduceSub, Array.replicate_succ, Array.replicate_zero, List.push_toArray, List.append_toArray, List.nil_append, List.cons_append]
  obtain ⟨l, hll⟩ : ∃ l, ls.length = l := ⟨_, rfl⟩
  obtain ⟨m, hmm⟩ : ∃ m, os.length = m := ⟨_, rfl⟩
  obtain ⟨ta, hta⟩ : ∃ t, t = w.heap.size := ⟨_, rfl⟩
  obtain ⟨tb, htb⟩ : ∃ t, t = w.heap.size + 1 := ⟨_, rfl⟩
  obtain ⟨W0, hW0⟩ : ∃ W0, W0 = (w.alloc (.cells #[.int .u32 (sd : Int), .slice a l ca] 49)).alloc (.cells #[.int .u32 (so : Int), .slice b m cb] 49) := ⟨_, rfl⟩
  have hT : TwoT w W0 ta tb 49 sd a l ca so b m cb := by rw [hW0, hta, htb]; exact TwoT.new ..
  obtain ⟨W1, hW1⟩ : ∃ W1, W1 = W0.alloc (.cells #[.pointer none, .slice none 0 0] 108) := ⟨_, rfl⟩
  obtain ⟨bb, hbb⟩ : ∃ bb, bb = W0.heap.size := ⟨_, rfl⟩
  have hbd1 : Bd bb bb ByteArray.empty W1 := by rw [hW1, hbb]; exact bd_new W0
  have hz0 : w.heap.size + 1 + 1 = bb := by rw [hbb, hW0]; simp
  have hz1 : W1.heap.size = bb + 1 := by rw [hW1, hbb]; simp
  have hb1 : Below bb W0 W1 := by rw [hW1, hbb]; exact Bw.one _ _
  have HTC := Lib.hid (show ∀ V, Below bb W0 V → V.cell? ⟨ta, 0, none⟩ = some (.int .u32 (sd : Int)) ∧ V.cell? ⟨ta, 1, none⟩ = some (.slice a l ca) ∧ V.cell? ⟨tb, 0, none⟩ = some (.int .u32 (so : Int)) ∧ V.cell? ⟨tb, 1, none⟩ = some (.slice b m cb) from fun V h => by
    rw [hbb] at h
    exact ⟨(hT.x.below h hT.x.lt).cell 0, (hT.x.below h hT.x.lt).cell 1, (hT.y.below h hT.y.lt).cell 0, (hT.y.below h hT.y.lt).cell 1⟩)
  have HIA := Lib.hid (show ∀ V, Below bb W0 V → InRow V a ls ∧ InRow V b os from fun V h => by
    rw [hbb] at h
    exact ⟨inRow_pre (inRow_pre hra hT.below) h, inRow_pre (inRow_pre hrb hT.below) h⟩)
  have HBW := Lib.hid (show ∀ V, Below bb W0 V → Below w.heap.size w V from fun V h => by
    rw [hbb] at h
    exact Below.trans hT.below (Below.mono h hT.below.size))
  have HLL := Lib.hid hll
  have HMM := Lib.hid hmm
  have HBD1 := Lib.hid hbd1
  have HB1 := Lib.hid hb1
  have HZ := Lib.hid (show ta < bb ∧ tb < bb ∧ w.heap.size ≤ bb by omega)
  have HZ1 := Lib.hid hz1
  have hl2 : l ≤ 20000 := by omega
  have hm2 : m ≤ 20000 := by omega
  have pL1 := Lib.hid (line_new W1 wFrames [(l : Int), (m : Int)] 2 #[.int .i64 (l : Int), .int .i64 (m : Int)] rfl rfl (by omega) (by intro n hn; simp at hn; rcases hn with rfl | rfl <;> omega) (by decide))
  unfold wFrames at pL1
  rw [hll, hmm]
  clear hT hbd1 hb1 hra hrb
  go_upto_region 1 with fail
  rw [← hW0, ← htb, ← hta]
  clear hW0 hta htb hz0 hz1 hll hmm
  go_upto_region 2 with fail
  rw [← hW1, ← hbb]
  clear hW1 hbb
  obtain ⟨x0, x1, y0, y1⟩ := HTC.out W1 HB1.out
  go_wp2_with fail
  refine pL1.out.mono ?_
  rintro e w2 ⟨rfl, b2⟩
  have T2 : TB bb W0 ByteArray.empty w2 := (TB.mk HBD1.out HB1.out).go b2
  obtain ⟨S1, hS1⟩ : ∃ S1, S1 = lineS wFrames [(l : Int), (m : Int)] := ⟨_, rfl⟩
  have hz1 : S1.size ≤ 100 := by
    have := lineS_size (s := wFrames) (l := [(l : Int), (m : Int)]) (by intro n hn; simp at hn; rcases hn with rfl | rfl <;> omega)
    rw [← hS1] at this
    simp only [List.length_cons, List.length_nil, show wFrames.size = 6 from rfl] at this
    omega
  have p3 := Lib.hid (T2.write S1 (by rw [show ByteArray.empty.size = 0 from rfl]; omega))
  rw [hS1] at p3
  unfold wFrames at p3
  clear x0 x1 y0 y1 pL1 b2 T2
  go_wp2_with fail
  refine p3.out.mono ?_
  rintro e w3 ⟨rfl, T3, -⟩
  have T3' : TB bb W0 S1 w3 := by rw [hS1]; unfold wFrames; simpa using T3
  have HT3 := Lib.hid T3'
  obtain ⟨x0, x1, y0, y1⟩ := HTC.out w3 T3'.below
  have hrow3 := HIA.out w3 T3'.below
  have hpq := inputs_any w3 sd so a b ca cb ls os hrow3.1 hrow3.2 hl hm
  rw [HLL.out, HMM.out] at hpq
  have pQ := Lib.hid hpq
  have HS1 := Lib.hid hS1
  clear T3 T3' p3 hrow3 hpq hS1
  go_wp2_with fail
  refine pQ.out.mono ?_
  rintro e w4 ⟨rfl, b4⟩
  have HT4 := Lib.hid (HT3.out.go b4)
  clear x0 x1 y0 y1 pQ b4
  obtain ⟨q, hq⟩ : ∃ q, q = inputsV ls os := ⟨_, rfl⟩
  rw [← hq]
  have hqf := inputsV_form ls os
  rw [← hq] at hqf
  obtain ⟨S2, hS2⟩ : ∃ S2, S2 = tellA ls os := ⟨_, rfl⟩
  have hq0 : q < 0 → S2 = S1 := fun h => by rw [hS2, tellA, ← hq, HS1.out, HLL.out, HMM.out]; exact if_pos h
  have hq1 : ¬ q < 0 → S2 = S1 ++ lineS wInputs [q, (inA ls q.toNat 0 : Int), (inA ls q.toNat 1 : Int), (inA os q.toNat 0 : Int), (inA os q.toNat 1 : Int)] := fun h => by rw [hS2, tellA, ← hq, HS1.out, HLL.out, HMM.out]; exact if_neg h
  have HQ0 := Lib.hid hq0
  have HQ1 := Lib.hid hq1
  have HQ := Lib.hid hq
  have HS2 := Lib.hid hS2
  clear hq hS2 hq0 hq1
  go_upto_if 24 with fail
  go_cut [6, 7, 8] from 25 to 50 (fun nv xv yv wx => nv = .int .i64 q ∧ TB bb W0 S2 wx ∧ S2.size ≤ 400 ∧ 0 < S2.size)
  case first =>
    rcases hqf with rfl | ⟨i, rfl, hil, him⟩
    · go_wp2_with fail
      go_meet
      exact ⟨rfl, by rw [HQ0.out (by decide)]; exact HT4.out, by rw [HQ0.out (by decide)]; omega, by rw [HQ0.out (by decide), HS1.out]; exact lineS_pos _ _⟩
    · have hil' : i < l := by rw [← HLL.out]; exact hil
      have him' : i < m := by rw [← HMM.out]; exact him
      have i0 : (0 : Int) ≤ (i : Int) := by omega
      have i1 : (i : Int) < (l : Int) := by omega
      have i2 : (i : Int) < (m : Int) := by omega
      obtain ⟨x0, x1, y0, y1⟩ := HTC.out w4 HT4.out.below
      obtain ⟨ra, rb⟩ := HIA.out w4 HT4.out.below
      obtain ⟨ga, oa, rfl, hga, cca⟩ := ra.2 (by omega)
      obtain ⟨gb, ob, rfl, hgb, ccb⟩ := rb.2 (by omega)
      obtain ⟨r0, r1⟩ := cca i hil
      obtain ⟨r2, r3⟩ := ccb i him
      have hS := HQ1.out (by omega)
      rw [show ((i : Int)).toNat = i from rfl] at hS
      have a0 := inA_lt ra.1 i 0 (by omega)
      have a1 := inA_lt ra.1 i 1 (by omega)
      have b0 := inA_lt rb.1 i 0 (by omega)
      have b1 := inA_lt rb.1 i 1 (by omega)
      generalize inA ls i 0 = j0 at *
      generalize inA ls i 1 = j1 at *
      generalize inA os i 0 = k0 at *
      generalize inA os i 1 = k1 at *
      have HS := Lib.hid hS
      have h64 : I64s [(i : Int), (j0 : Int), (j1 : Int), (k0 : Int), (k1 : Int)] := by
        intro n hn
        simp at hn
        rcases hn with rfl | rfl | rfl | rfl | rfl <;> omega
      have H64 := Lib.hid h64
      have HSC := Lib.hid (show ∀ V, Bw w4 V → V.cell? ⟨ta, 1, none⟩ = some (.slice (some ⟨ga, oa, none⟩) l ca) ∧ V.cell? ⟨tb, 1, none⟩ = some (.slice (some ⟨gb, ob, none⟩) m cb) ∧ V.cell? ⟨ga, oa + i * 2, none⟩ = some (.int .u16 (j0 : Int)) ∧ V.cell? ⟨ga, oa + i * 2 + 1, none⟩ = some (.int .u16 (j1 : Int)) ∧ V.cell? ⟨gb, ob + i * 2, none⟩ = some (.int .u16 (k0 : Int)) ∧ V.cell? ⟨gb, ob + i * 2 + 1, none⟩ = some (.int .u16 (k1 : Int)) from fun V h => by
        have t := HTC.out V (HT4.out.go h).below
        exact ⟨t.2.1, t.2.2.2, (Below.cell (p := ⟨ga, oa + i * 2, none⟩) h hga).trans r0, (Below.cell (p := ⟨ga, oa + i * 2 + 1, none⟩) h hga).trans r1, (Below.cell (p := ⟨gb, ob + i * 2, none⟩) h hgb).trans r2, (Below.cell (p := ⟨gb, ob + i * 2 + 1, none⟩) h hgb).trans r3⟩)
      have HSL := Lib.hid (show i ≤ 20000 ∧ j0 < 65536 ∧ j1 < 65536 ∧ k0 < 65536 ∧ k1 < 65536 by omega)
      clear hil him hil' him' cca ccb ra rb x0 x1 y0 y1 r0 r1 r2 r3 hS h64 a0 a1 b0 b1
      go_upto_region 5 with fail
      go_cut [7, 8] from 25 to 34 (fun xv yv wx => ∃ gx gy, xv = .pointer (some ⟨gx, 0, none⟩) ∧ yv = .pointer (some ⟨gy, 0, none⟩) ∧ Blk wx gx 69 #[.int .u16 (j0 : Int), .int .u16 (j1 : Int)] ∧ Blk wx gy 69 #[.int .u16 (k0 : Int), .int .u16 (k1 : Int)] ∧ Bw w4 wx)
      case first =>
        go_region_held3 (fun V => V.cell? ⟨ta, 1, none⟩ = some (.slice (some ⟨ga, oa, none⟩) l ca) ∧ V.cell? ⟨tb, 1, none⟩ = some (.slice (some ⟨gb, ob, none⟩) m cb) ∧ V.cell? ⟨ga, oa + i * 2, none⟩ = some (.int .u16 (j0 : Int)) ∧ V.cell? ⟨ga, oa + i * 2 + 1, none⟩ = some (.int .u16 (j1 : Int)) ∧ V.cell? ⟨gb, ob + i * 2, none⟩ = some (.int .u16 (k0 : Int)) ∧ V.cell? ⟨gb, ob + i * 2 + 1, none⟩ = some (.int .u16 (k1 : Int))) ((refine HSC.out _ ?_; (repeat (first | exact Bw.rf _ | refine Bw.al ?_ _ | refine Bw.dr ?_ | fail)))) (fail)
        all_goals
          go_wp2_with fail
          go_meet
          first
            | exact ⟨_, _, rfl, rfl, (new_two w4 _ _ _).1, (new_two w4 _ _ _).2.1, (new_two w4 _ _ _).2.2⟩
            | exact ⟨_, _, rfl, rfl, (new_two w4 _ _ _).2.1, (new_two w4 _ _ _).1, (new_two w4 _ _ _).2.2⟩
            | fail
      case rest =>
        obtain ⟨gx, gy, rfl, rfl, hgx, hgy, hbc⟩ := hcut
        have c0 := hgx.cell 0
        have c1 := hgx.cell 1
        have e0 := hgy.cell 0
        have e1 := hgy.cell 1
        simp at c0 c1 e0 e1
        have TC := HT4.out.go hbc
        obtain ⟨hi2, hj0, hj1, hk0, hk1⟩ := HSL.out
        have pL := Lib.hid (line_new wc wInputs [(i : Int), (j0 : Int), (j1 : Int), (k0 : Int), (k1 : Int)] 5 #[.int .i64 (i : Int), .int .i64 (j0 : Int), .int .i64 (j1 : Int), .int .i64 (k0 : Int), .int .i64 (k1 : Int)] rfl rfl (by omega) H64.out (by decide))
        obtain ⟨T, hT⟩ : ∃ T, T = lineS wInputs [(i : Int), (j0 : Int), (j1 : Int), (k0 : Int), (k1 : Int)] := ⟨_, rfl⟩
        have hzT : T.size ≤ 200 := by
          have := lineS_size (s := wInputs) H64.out
          rw [← hT] at this
          simp only [List.length_cons, List.length_nil, show wInputs.size = 6 from rfl] at this
          omega
        have hS := HS.out
        rw [← hT] at pL hS
        unfold wInputs at pL
        have HTC2 := Lib.hid TC
        have HSE := Lib.hid hS
        clear hT TC hS hgx hgy hbc HSC
        go_wp2_with fail
        refine pL.out.mono ?_
        rintro e w5 ⟨rfl, b5⟩
        have p6 := Lib.hid ((HTC2.out.go b5).write T (by omega))
        clear c0 c1 e0 e1 b5 pL
        go_wp2_with fail
        refine p6.out.mono ?_
        rintro e w6 ⟨rfl, T6, -⟩
        have HT6 := Lib.hid T6
        clear T6 p6
        go_wp2_with fail
        go_meet
        exact ⟨rfl, by rw [HSE.out]; exact HT6.out, by rw [HSE.out, ByteArray.size_append]; omega, by rw [HSE.out, ByteArray.size_append, HS1.out]; have := lineS_pos wFrames [(l : Int), (m : Int)]; omega⟩
  case rest =>
    obtain ⟨rfl, TC, hz2, hz3⟩ := hcut
    have HTC2 := Lib.hid TC
    obtain ⟨x0, x1, y0, y1⟩ := HTC.out wc TC.below
    obtain ⟨ra, rb⟩ := HIA.out wc TC.below
    have hpf := first_any wc sd so hs ho a b ca cb ls os ra rb hl hm
    rw [HLL.out, HMM.out] at hpf
    have pF := Lib.hid hpf
    clear TC ra rb hpf HQ0 HQ1 HQ HT4 HT3 hqf
    go_wp2_with fail
    refine pF.out.mono ?_
    rintro e w7 ⟨rfl, b7⟩
    have HT7 := Lib.hid (HTC2.out.go b7)
    clear x0 x1 y0 y1 pF b7
    obtain ⟨q1, hq1⟩ : ∃ q, q = firstV sd ls so os := ⟨_, rfl⟩
    rw [← hq1]
    have hff := firstV_form sd ls so os
    rw [← hq1] at hff
    rcases hff with rfl | ⟨i, rfl, hil, him⟩
    · have HV := Lib.hid (show tellV sd ls so os = S2 ++ wSame by rw [tellV, ← hq1, HS2.out]; rfl)
      have pS := Lib.hid (string_any bb bb S2 w7 HT7.out.bd hz3)
      have g1 : ¬ 9223372036854775807 < S2.size + 5 := by omega
      clear hq1
      go_wp2_with fail
      refine pS.out.mono ?_
      rintro e w8 ⟨rfl, b8, -⟩
      have HB8 := Lib.hid (Below.trans HT7.out.below b8)
      clear pS b8
      go_wp2_with fail
      refine ⟨.string (S2 ++ wSame), ?_, ?_, ?_⟩
      · simp [results, Try.f20, go_sem, wSame]
      · rw [HV.out]
      · exact HBW.out _ HB8.out
    · have HV := Lib.hid (show tellV sd ls so os = tellK (stK sd ls i) (stK so os i) (S2 ++ lineS wPart [(i : Int)]) 66 by rw [tellV, ← hq1, HS2.out]; rfl)
      have hi2 : i ≤ 20000 := by omega
      have h64 : I64s [(i : Int)] := by
        intro n hn
        simp at hn
        subst hn
        omega
      have pL := Lib.hid (line_new w7 wPart [(i : Int)] 1 #[.int .i64 (i : Int)] rfl rfl (by omega) h64 (by decide))
      obtain ⟨T, hT⟩ : ∃ T, T = lineS wPart [(i : Int)] := ⟨_, rfl⟩
      have hzT : T.size ≤ 200 := by
        have := lineS_size (s := wPart) h64
        rw [← hT] at this
        simp only [List.length_cons, List.length_nil, show wPart.size = 4 from rfl] at this
        omega
      rw [← hT] at pL HV
      unfold wPart at pL
      have HIL := Lib.hid (show i ≤ ls.length ∧ i ≤ os.length from ⟨hil, him⟩)
      have g0 : ¬ (i : Int) < 0 := by omega
      clear hq1 hT h64 hil him
      go_wp2_with fail
      refine pL.out.mono ?_
      rintro e w8 ⟨rfl, b8⟩
      have p9 := Lib.hid ((HT7.out.go b8).write T (by omega))
      clear b8 pL
      go_wp2_with fail
      refine p9.out.mono ?_
      rintro e w9 ⟨rfl, T9, -⟩
      have HT9 := Lib.hid T9
      clear T9 p9
      go_upto_region 11 with fail
      obtain ⟨x0, x1, y0, y1⟩ := HTC.out w9 HT9.out.below
      obtain ⟨C, LC⟩ := let_of (stK sd ls i)
      obtain ⟨D, LD⟩ := let_of (stK so os i)
      have hwf := stK_wf sd hs ls hi2
      have hwg := stK_wf so ho os hi2
      have pA := Lib.hid (show ∀ V, Below bb W0 V → Calls Try.prog 51 #[.agg #[.int .u32 (sd : Int), .slice a l ca], .int .i64 (i : Int)] V fun e w' => e = .returned (.agg C) ∧ Bw V w' from fun V h => by
        have := tstate_any V sd hs a ca ls (i : Int) (HIA.out V h).1 hl hla hca hna
        rw [show stAt sd ls (i : Int) = stK sd ls i by rw [stAt, stK, nOf_at HIL.out.1], HLL.out] at this
        unfold stV at this
        rw [← LC.eq] at this
        exact this)
      have pB := Lib.hid (show ∀ V, Below bb W0 V → Calls Try.prog 51 #[.agg #[.int .u32 (so : Int), .slice b m cb], .int .i64 (i : Int)] V fun e w' => e = .returned (.agg D) ∧ Bw V w' from fun V h => by
        have := tstate_any V so ho b cb os (i : Int) (HIA.out V h).2 hm hlb hcb hnb
        rw [show stAt so os (i : Int) = stK so os i by rw [stAt, stK, nOf_at HIL.out.2], HMM.out] at this
        unfold stV at this
        rw [← LD.eq] at this
        exact this)
      have pU := Lib.hid (show ∀ V, Calls Try.prog 18 #[.agg C, .agg D] V fun e w' => e = .returned (.func (.func 61) #[] #[.pointer (some ⟨V.heap.size, 0, none⟩), .pointer (some ⟨V.heap.size + 1, 0, none⟩)]) ∧ (V.alloc (.cells C 31)).alloc (.cells D 31) = w' from fun V => by
        have := unlike_any V (stK sd ls i) (stK so os i)
        unfold stV at this
        rw [← LC.eq, ← LD.eq] at this
        exact this)
      have HLC := Lib.hid LC
      have HLD := Lib.hid LD
      have HWF := Lib.hid hwf
      have HWG := Lib.hid hwg
      have d0 := Bw.drew0 w9
      have HSC := Lib.hid (show ∀ V, Bw w9 V → V.cell? ⟨ta, 0, none⟩ = some (.int .u32 (sd : Int)) ∧ V.cell? ⟨ta, 1, none⟩ = some (.slice a l ca) ∧ V.cell? ⟨tb, 0, none⟩ = some (.int .u32 (so : Int)) ∧ V.cell? ⟨tb, 1, none⟩ = some (.slice b m cb) from fun V h => HTC.out V (HT9.out.go h).below)
      clear LC LD hwf hwg x0 x1 y0 y1
      go_region_held3 (fun V => V.cell? ⟨ta, 0, none⟩ = some (.int .u32 (sd : Int)) ∧ V.cell? ⟨ta, 1, none⟩ = some (.slice a l ca) ∧ V.cell? ⟨tb, 0, none⟩ = some (.int .u32 (so : Int)) ∧ V.cell? ⟨tb, 1, none⟩ = some (.slice b m cb)) (first | exact HSC.out _ d0 | exact HSC.out _ dA | exact HSC.out _ dB | exact HSC.out _ (Bw.al (Bw.al dB _) _) | fail)
        (first
          | (go_at_call 51; (with_reducible refine (pA.out _ (HT9.out.go d0).below).mono ?_); rintro e wA ⟨rfl, bA⟩; have dA : Bw w9 wA := d0.go bA)
          | (go_at_call 51; (with_reducible refine (pB.out _ (HT9.out.go dA).below).mono ?_); rintro e wB ⟨rfl, bB⟩; have dB : Bw w9 wB := dA.go bB)
          | (go_at_call 18; (with_reducible refine (pU.out _).mono ?_); rintro e wU ⟨rfl, rfl⟩)
          | fail)
      obtain ⟨pa, hpa⟩ : ∃ p, p = wB.heap.size := ⟨_, rfl⟩
      obtain ⟨pb, hpb⟩ : ∃ p, p = wB.heap.size + 1 := ⟨_, rfl⟩
      obtain ⟨W12, hW12⟩ : ∃ W, W = (wB.alloc (.cells C 31)).alloc (.cells D 31) := ⟨_, rfl⟩
      rw [← hW12, ← hpb, ← hpa]
      have hSa : SB W12 pa 31 (stK sd ls i) := by rw [hW12, hpa]; exact HLC.out.sb ((Blk.new wB _ _).alloc _)
      have hSb : SB W12 pb 31 (stK so os i) := by
        rw [hW12, hpb]
        have := Blk.new (wB.alloc (.cells C 31)) 31 D
        rw [World.size_alloc] at this
        exact HLD.out.sb this
      have hT12 : TB bb W0 (S2 ++ T) W12 := by rw [hW12]; exact HT9.out.go (Bw.al (Bw.al dB _) _)
      have HSA := Lib.hid hSa
      have HSB := Lib.hid hSb
      have HT12 := Lib.hid hT12
      clear hSa hSb hW12 hpa hpb d0 dA dB pA pB pU HSC hT12
      go_wp2_with fail
      refine (wpIn_wide (n := 9)).1 ?_
      obtain ⟨f, hf⟩ : ∃ f, f = stK sd ls i := ⟨_, rfl⟩
      obtain ⟨g, hg⟩ : ∃ g, g = stK so os i := ⟨_, rfl⟩
      rw [← hf] at HSA HWF HV
      rw [← hg] at HSB HWG HV
      obtain ⟨S3, hS3⟩ : ∃ S, S = S2 ++ T := ⟨_, rfl⟩
      have hz4 : S3.size ≤ 600 ∧ 0 < S3.size := by rw [hS3, ByteArray.size_append]; omega
      rw [← hS3] at HT12 HV
      obtain ⟨FN, hFN⟩ : ∃ FN : Nat → ByteArray, FN = fun k => nmAt (dixA f g k) := ⟨_, rfl⟩
      obtain ⟨FA, hFA⟩ : ∃ FA : Nat → Int, FA = fun k => nth (nuC f) (dixA f g k) := ⟨_, rfl⟩
      obtain ⟨FB, hFB⟩ : ∃ FB : Nat → Int, FB = fun k => nth (nuC g) (dixA f g k) := ⟨_, rfl⟩
      have HENC := Lib.hid (show ∀ k, encP f g k = #[.agg #[.string (FN k), .int .i64 (FA k), .int .i64 (FB k)]] from fun k => by rw [hFN, hFA, hFB]; rfl)
      have HDL := Lib.hid (show ∀ k, dLine f g (dixA f g k) = lineS (FN k) [FA k, FB k] from fun k => by rw [hFN, hFA, hFB]; rfl)
      have HNS := Lib.hid (show ∀ k, (FN k).size ≤ 32 from fun k => by rw [hFN]; exact nmAt_size _)
      have H64 := Lib.hid (show ∀ k, I64s [FA k, FB k] from fun k => by
        rw [hFA, hFB]
        intro n hn
        simp at hn
        rcases hn with rfl | rfl
        · exact nth_i64 HWF.out _
        · exact nth_i64 HWG.out _)
      have HTR := Lib.hid (fun k => tellR_size HWF.out HWG.out S3 k)
      have HTS := Lib.hid (fun k (h : k < dixN f g) => tellR_step f g S3 h)
      have HTA := Lib.hid (tellR_all f g S3)
      have HBS := Lib.hid (show bb < W12.heap.size from HT12.out.bd.lt)
      have HZ4 := Lib.hid hz4
      clear hf hg hS3 hFN hFA hFB hz4 g0
      refine' range_box (F := Fence.wide) (n := 9) rfl (by omega) (gf := 61) (lb := #[.pointer (some ⟨pa, 0, none⟩), .pointer (some ⟨pb, 0, none⟩)]) rfl trivial (enters_of Try.func61 (by kernel_rfl) rfl)
        (encs := fun k => #[.agg #[.string (FN k), .int .i64 (FA k), .int .i64 (FB k)]]) (Kp := KeepX (fun k => k = bb ∨ k = W12.heap.size + 1)) (N := dixN f g) (t := 45) (cs := fun k => #[.string (FN k), .int .i64 (FA k), .int .i64 (FB k)]) _
        (fun V J Jx hb hz hJ hJx hY h0 => unlike_in (W12.heap.size + 1) pa pb (W12.heap.size + 2) (fun k => k = bb ∨ k = W12.heap.size + 1) f g HWF.out HWG.out J Jx (fun k W1 hk hj => by rw [HENC.out k]; exact hY k W1 hk hj) V hz hJ (HSA.out.below hb (SB.lt HSA.out)) (HSB.out.below hb (SB.lt HSB.out)) (fun k hk => by have := HBS.out; rcases hk with h | h <;> omega) h0)
        (fun h h' => KeepX.trans h h') (fun W o => keepX_put _ W _ o (.inr rfl)) (fun A B _ hb => KeepX.of_below hb) (fun _ => rfl)
        (fun k W => TB bb W0 (tellR f g S3 k) W) (fun _ _ => False) (fun s A C h hb => h.go hb) (fun _ _ _ h _ => h) (fun k W r o h hl => h.put hl (by have := HBS.out; omega) o) (fun _ _ _ _ h _ => h) HT12.out ?assign ?body ?done ?stop
      case assign =>
        intro l' k q' W K hq hK
        have HQ := Lib.hid hq
        clear hq
        gi_wp2
        rw [← HQ.out]
        exact hK
      case stop =>
        intro D k W _ _ hx _
        exact hx.elim
      case body =>
        intro l' k gq W hI hk hblk hgq hzW
        have c0 := hblk.cell 0
        have c1 := hblk.cell 1
        have c2 := hblk.cell 2
        simp at c0 c1 c2
        have pL := Lib.hid (line_new W (FN k) [FA k, FB k] 2 #[.int .i64 (FA k), .int .i64 (FB k)] rfl rfl (by omega) (H64.out k) (by have := HNS.out k; omega))
        have hls : (lineS (FN k) [FA k, FB k]).size ≤ 100 := by
          have h1 := lineS_size (s := FN k) (H64.out k)
          have h2 := HNS.out k
          simp only [List.length_cons, List.length_nil] at h1
          omega
        have hts := HTS.out k hk
        rw [HDL.out k] at hts
        obtain ⟨L, hL⟩ : ∃ L, L = lineS (FN k) [FA k, FB k] := ⟨_, rfl⟩
        rw [← hL] at pL hls hts
        have HI := Lib.hid hI
        have HTK := Lib.hid hts
        have hzk := HTR.out k
        have hz4 := HZ4.out
        have pW := Lib.hid (show ∀ V, Bw W V → Calls Try.prog 62 #[.pointer (some ⟨bb, 0, none⟩), .string L] V fun e w' => e = .returned (.tuple #[.int .i64 L.size, .nilIface]) ∧ TB bb W0 (tellR f g S3 k ++ L) w' ∧ KeepX (· = bb) V w' from fun V h => (HI.out.go h).write L (by omega))
        have HBB := HBS.out
        have FIN := Lib.hid (show ∀ V V2, Bw W V → TB bb W0 (tellR f g S3 k ++ L) V2 → KeepX (· = bb) V V2 → KeepsFrom W12.heap.size W V2 ∧ KeepX (fun k => k = bb ∨ k = W12.heap.size + 1) W V2 ∧ TB bb W0 (tellR f g S3 (k + 1)) V2 from fun V V2 h1 h2 h3 => by
          have hk2 : KeepX (· = bb) W V2 := (KeepX.of_below h1).trans h3
          exact ⟨hk2.from_ (fun j hj e => by omega), hk2.mono (fun j hj => .inl hj), by rw [HTK.out]; exact h2⟩)
        clear hL hblk hI hk hls hts hzk hz4 HBB hgq hzW
        gi_wp2_with (first
          | (refine And.intro (show Fence.wide.fn _ from trivial) ?_; gi_at_call 63; (with_reducible refine (CallsIn.inRound l' ((callsIn_wide (n := _)).2 pL.out)).mono ?_); rintro e w13 ⟨rfl, b13⟩)
          | (refine And.intro (show Fence.wide.fn _ from trivial) ?_; gi_at_call 62; (with_reducible refine (CallsIn.inRound l' ((callsIn_wide (n := _)).2 (pW.out _ b13))).mono ?_); rintro e w14 ⟨rfl, T14, k14⟩)
          | fail)
        exact FIN.out _ _ b13 T14 k14
      case done =>
        intro D W hD hI hdef
        rw [HTA.out] at hI
        have hz4 := HZ4.out
        have hzk := tellK_size HWF.out HWG.out S3 66
        have hpos : 0 < (tellK f g S3 66).size := by
          have := fold_pos f g (dix f g 66) S3
          rw [tellK]; omega
        have pS := Lib.hid (string_any bb bb _ W hI.bd hpos)
        obtain ⟨R, hR⟩ : ∃ R, R = tellK f g S3 66 := ⟨_, rfl⟩
        rw [← hR] at pS HV
        have HB := Lib.hid hI.below
        have hDb : bb ≠ D := by have := HBS.out; omega
        have HDF := Lib.hid hdef
        have HDB := Lib.hid hDb
        have HDZ := Lib.hid hD
        clear hI hdef hz4 hzk hpos hR hDb hD
        go_wp2_with fail
        refine pS.out.mono ?_
        rintro e w15 ⟨rfl, b15, k15⟩
        have hdef' : w15.heap[D]? = some (Obj.deferred (some [])) := (k15.2 D (lt_of_heap HDF.out) (fun e => HDB.out e.symm) (fun cs fz e => by rw [HDF.out] at e; cases e)).trans HDF.out
        have HB15 := Lib.hid (Below.trans HB.out b15)
        have HD15 := Lib.hid hdef'
        clear pS b15 k15 hdef'
        go_wp2_with fail
        refine ⟨by simp, .inl ⟨_, _, rfl, run_takeDeferred HD15.out, ?_⟩⟩
        refine ⟨.string R, ?_, ?_, ?_⟩
        · simp [results, Try.f20, go_sem]
        · rw [HV.out]
        · have hbw := HBW.out _ HB15.out
          exact hbw.trans (belowB_put (l := D) (by have := HZ.out; have := HBS.out; have := HDZ.out; omega) _ _)
end Go.Proofs.Ytlhoffhagfhbcaa.Dif
namespace Go.Proofs.Ytlhoffhagfhbcaa.Dif
open Go.RowKit Go.Sort Go.Proofs.Ytlhoffhagfhbcaa.Byt Go.Proofs.Ytlhoffhagfhbcaa.Gm Go.Proofs.Ytlhoffhagfhbcaa.Num Go.Proofs.Ytlhoffhagfhbcaa.Spe
set_option linter.all false

theorem Gr.form {t : TypeId} {w W : World} {v : Value} {vs : List Value} (h : Gr noB t w v vs W) (hp : 0 < vs.length) : ∃ g c, v = .slice (some ⟨g, 0, none⟩) vs.length c ∧ g < W.heap.size ∧ ∀ j u, vs[j]? = some u → W.cell? ⟨g, j, none⟩ = some u := by
  rcases On.form h.out with ⟨_, h0, _⟩ | ⟨g, c, hv, _, _, _, hlt, hc, _⟩
  · omega
  · exact ⟨g, c, hv, hlt, hc⟩
theorem Gr.bw {t : TypeId} {w W : World} {v : Value} {vs : List Value} (h : Gr noB t w v vs W) : Bw w W := h.touch.below (Nat.le_refl _) (fun k hk => hk.elim)

/-- The names and both states' numbers, in memory. -/
def Tri (V : World) (gn gx gy : Nat) (f g : F) : Prop := ∀ i, i < 66 → V.cell? ⟨gn, i, none⟩ = some (.string (nmAt i)) ∧ V.cell? ⟨gx, i, none⟩ = some (.int .i64 (nth (nuC f) i)) ∧ V.cell? ⟨gy, i, none⟩ = some (.int .i64 (nth (nuC g) i))
theorem names_get {i : Nat} (hi : i < 66) : (nmC.map Value.string)[i]? = some (.string (nmAt i)) := by
  have : i < nmC.length := by rw [nmC_len]; exact hi
  simp [nmAt, List.getD, this]
theorem nums_get (f : F) {i : Nat} (hi : i < 66) : ((nuC f).map (Value.int .i64))[i]? = some (.int .i64 (nth (nuC f) i)) := by
  have : i < (nuC f).length := by rw [nuC_len]; exact hi
  simp [nth, List.getD, this]
theorem Gr.names {w W : World} {v : Value} (h : Gr noB 9 w v (nmC.map Value.string) W) : ∃ g c, v = .slice (some ⟨g, 0, none⟩) 66 c ∧ g < W.heap.size ∧ ∀ i, i < 66 → W.cell? ⟨g, i, none⟩ = some (.string (nmAt i)) := by
  obtain ⟨g, c, hv, hlt, hc⟩ := h.form (by rw [List.length_map, nmC_len]; omega)
  rw [List.length_map, nmC_len] at hv
  exact ⟨g, c, hv, hlt, fun i hi => hc i _ (names_get hi)⟩
theorem Gr.nums {w W : World} {v : Value} {f : F} (h : Gr noB 2 w v ((nuC f).map (Value.int .i64)) W) : ∃ g c, v = .slice (some ⟨g, 0, none⟩) 66 c ∧ g < W.heap.size ∧ ∀ i, i < 66 → W.cell? ⟨g, i, none⟩ = some (.int .i64 (nth (nuC f) i)) := by
  obtain ⟨g, c, hv, hlt, hc⟩ := h.form (by rw [List.length_map, nuC_len]; omega)
  rw [List.length_map, nuC_len] at hv
  exact ⟨g, c, hv, hlt, fun i hi => hc i _ (nums_get f hi)⟩

set_option maxRecDepth 100000 in
set_option maxHeartbeats 8000000 in
theorem rtell_any (w : World) (sd so : Nat) (hs : sd < 4294967296) (ho : so < 4294967296) (a b : Option Addr) (ca cb : Nat) (ls os : List (Nat × Nat)) (hra : InRow w a ls) (hrb : InRow w b os) (hl : ls.length ≤ 20000) (hm : os.length ≤ 20000) (hla : ls.length ≤ ca) (hlb : os.length ≤ cb) (hca : ca ≤ 9223372036854775807) (hcb : cb ≤ 9223372036854775807) (hna : a = none → ca = 0) (hnb : b = none → cb = 0) :
    Calls Try.prog 21 #[.agg #[.int .u32 (sd : Int), .slice a ls.length ca], .agg #[.int .u32 (so : Int), .slice b os.length cb]] w fun e w' => e = .returned (.string (tellV sd ls so os)) ∧ Below w.heap.size w w' := by
  obtain ⟨l, hll⟩ : ∃ l, ls.length = l := ⟨_, rfl⟩
  obtain ⟨m, hmm⟩ : ∃ m, os.length = m := ⟨_, rfl⟩
  obtain ⟨ta, hta⟩ : ∃ t, t = w.heap.size := ⟨_, rfl⟩
  obtain ⟨tb, htb⟩ : ∃ t, t = w.heap.size + 1 := ⟨_, rfl⟩
  obtain ⟨W1, hW1⟩ : ∃ W1, W1 = (w.alloc (.cells #[.int .u32 (sd : Int), .slice a l ca] 53)).alloc (.cells #[.int .u32 (so : Int), .slice b m cb] 53) := ⟨_, rfl⟩
  have hT : TwoT w W1 ta tb 53 sd a l ca so b m cb := by rw [hW1, hta, htb]; exact TwoT.new ..
  have HTC := Lib.hid (show ∀ V, Bw W1 V → V.cell? ⟨ta, 0, none⟩ = some (.int .u32 (sd : Int)) ∧ V.cell? ⟨ta, 1, none⟩ = some (.slice a l ca) ∧ V.cell? ⟨tb, 0, none⟩ = some (.int .u32 (so : Int)) ∧ V.cell? ⟨tb, 1, none⟩ = some (.slice b m cb) from fun V h => ⟨(hT.x.below h hT.x.lt).cell 0, (hT.x.below h hT.x.lt).cell 1, (hT.y.below h hT.y.lt).cell 0, (hT.y.below h hT.y.lt).cell 1⟩)
  have HIA := Lib.hid (show ∀ V, Bw W1 V → InRow V a ls ∧ InRow V b os from fun V h => ⟨inRow_pre (inRow_pre hra hT.below) h, inRow_pre (inRow_pre hrb hT.below) h⟩)
  have HBW := Lib.hid (show ∀ V, Bw W1 V → Below w.heap.size w V from fun V h => Below.trans hT.below (Below.mono h hT.below.size))
  have HLL := Lib.hid hll
  have HMM := Lib.hid hmm
  have hl2 : l ≤ 20000 := by omega
  have hm2 : m ≤ 20000 := by omega
  have pL1 := Lib.hid (rline_new W1 wFrames [(l : Int), (m : Int)] 2 #[.int .i64 (l : Int), .int .i64 (m : Int)] rfl rfl (by omega) (by intro n hn; simp at hn; rcases hn with rfl | rfl <;> omega) (by decide))
  unfold wFrames at pL1
  rw [hll, hmm]
  clear hT hra hrb hll hmm
  go_enter Try.func21, Try.ntmps21
  go_upto_region 1 with fail
  rw [← hW1, ← htb, ← hta]
  clear hW1 hta htb
  obtain ⟨x0, x1, y0, y1⟩ := HTC.out W1 (Bw.rf _)
  go_wp2_with fail
  refine pL1.out.mono ?_
  rintro e w3 ⟨rfl, b3⟩
  obtain ⟨S1, hS1⟩ : ∃ S1, S1 = lineS wFrames [(l : Int), (m : Int)] := ⟨_, rfl⟩
  have hz1 : S1.size ≤ 100 := by
    have := lineS_size (s := wFrames) (l := [(l : Int), (m : Int)]) (by intro n hn; simp at hn; rcases hn with rfl | rfl <;> omega)
    rw [← hS1] at this
    simp only [List.length_cons, List.length_nil, show wFrames.size = 6 from rfl] at this
    omega
  have hS1' := hS1
  unfold wFrames at hS1'
  rw [← hS1']
  have HS1 := Lib.hid hS1
  have HB3 := Lib.hid b3
  clear x0 x1 y0 y1 pL1 b3 hS1 hS1'
  obtain ⟨x0, x1, y0, y1⟩ := HTC.out w3 HB3.out
  have hrow3 := HIA.out w3 HB3.out
  have hpq := rinputs_any w3 sd so a b ca cb ls os hrow3.1 hrow3.2 hl hm
  rw [HLL.out, HMM.out] at hpq
  have pQ := Lib.hid hpq
  clear hrow3 hpq
  go_wp2_with fail
  refine pQ.out.mono ?_
  rintro e w4 ⟨rfl, b4⟩
  have HB4 := Lib.hid (HB3.out.go b4)
  clear x0 x1 y0 y1 pQ b4
  obtain ⟨q, hq⟩ : ∃ q, q = inputsV ls os := ⟨_, rfl⟩
  rw [← hq]
  have hqf := inputsV_form ls os
  rw [← hq] at hqf
  obtain ⟨S2, hS2⟩ : ∃ S2, S2 = tellA ls os := ⟨_, rfl⟩
  have hq0 : q < 0 → S2 = S1 := fun h => by rw [hS2, tellA, ← hq, HS1.out, HLL.out, HMM.out]; exact if_pos h
  have hq1 : ¬ q < 0 → S2 = S1 ++ lineS wInputs [q, (inA ls q.toNat 0 : Int), (inA ls q.toNat 1 : Int), (inA os q.toNat 0 : Int), (inA os q.toNat 1 : Int)] := fun h => by rw [hS2, tellA, ← hq, HS1.out, HLL.out, HMM.out]; exact if_neg h
  have HQ0 := Lib.hid hq0
  have HQ1 := Lib.hid hq1
  have HQ := Lib.hid hq
  have HS2 := Lib.hid hS2
  clear hq hS2 hq0 hq1
  go_upto_if 25 with fail
  go_cut [5, 6, 7, 8] from 26 to 52 (fun sv nv xv yv wx => sv = .string S2 ∧ nv = .int .i64 q ∧ Bw W1 wx ∧ S2.size ≤ 400)
  case first =>
    rcases hqf with rfl | ⟨i, rfl, hil, him⟩
    · go_wp2_with fail
      go_meet
      exact ⟨by rw [HQ0.out (by decide)], rfl, HB4.out, by rw [HQ0.out (by decide)]; omega⟩
    · have hil' : i < l := by rw [← HLL.out]; exact hil
      have him' : i < m := by rw [← HMM.out]; exact him
      have i0 : (0 : Int) ≤ (i : Int) := by omega
      have i1 : (i : Int) < (l : Int) := by omega
      have i2 : (i : Int) < (m : Int) := by omega
      obtain ⟨ra, rb⟩ := HIA.out w4 HB4.out
      obtain ⟨ga, oa, rfl, hga, cca⟩ := ra.2 (by omega)
      obtain ⟨gb, ob, rfl, hgb, ccb⟩ := rb.2 (by omega)
      obtain ⟨r0, r1⟩ := cca i hil
      obtain ⟨r2, r3⟩ := ccb i him
      have hS := HQ1.out (by omega)
      rw [show ((i : Int)).toNat = i from rfl] at hS
      have a0 := inA_lt ra.1 i 0 (by omega)
      have a1 := inA_lt ra.1 i 1 (by omega)
      have b0 := inA_lt rb.1 i 0 (by omega)
      have b1 := inA_lt rb.1 i 1 (by omega)
      generalize inA ls i 0 = j0 at *
      generalize inA ls i 1 = j1 at *
      generalize inA os i 0 = k0 at *
      generalize inA os i 1 = k1 at *
      have HS := Lib.hid hS
      have h64 : I64s [(i : Int), (j0 : Int), (j1 : Int), (k0 : Int), (k1 : Int)] := by
        intro n hn
        simp at hn
        rcases hn with rfl | rfl | rfl | rfl | rfl <;> omega
      have H64 := Lib.hid h64
      have HSC := Lib.hid (show ∀ V, Bw w4 V → V.cell? ⟨ta, 1, none⟩ = some (.slice (some ⟨ga, oa, none⟩) l ca) ∧ V.cell? ⟨tb, 1, none⟩ = some (.slice (some ⟨gb, ob, none⟩) m cb) ∧ V.cell? ⟨ga, oa + i * 2, none⟩ = some (.int .u16 (j0 : Int)) ∧ V.cell? ⟨ga, oa + i * 2 + 1, none⟩ = some (.int .u16 (j1 : Int)) ∧ V.cell? ⟨gb, ob + i * 2, none⟩ = some (.int .u16 (k0 : Int)) ∧ V.cell? ⟨gb, ob + i * 2 + 1, none⟩ = some (.int .u16 (k1 : Int)) from fun V h => by
        have t := HTC.out V (HB4.out.go h)
        exact ⟨t.2.1, t.2.2.2, (Below.cell (p := ⟨ga, oa + i * 2, none⟩) h hga).trans r0, (Below.cell (p := ⟨ga, oa + i * 2 + 1, none⟩) h hga).trans r1, (Below.cell (p := ⟨gb, ob + i * 2, none⟩) h hgb).trans r2, (Below.cell (p := ⟨gb, ob + i * 2 + 1, none⟩) h hgb).trans r3⟩)
      have HSL := Lib.hid (show i ≤ 20000 ∧ j0 < 65536 ∧ j1 < 65536 ∧ k0 < 65536 ∧ k1 < 65536 by omega)
      clear hil him hil' him' cca ccb ra rb r0 r1 r2 r3 hS h64 a0 a1 b0 b1
      go_upto_region 4 with fail
      go_cut [7, 8] from 26 to 35 (fun xv yv wx => ∃ gx gy, xv = .pointer (some ⟨gx, 0, none⟩) ∧ yv = .pointer (some ⟨gy, 0, none⟩) ∧ Blk wx gx 69 #[.int .u16 (j0 : Int), .int .u16 (j1 : Int)] ∧ Blk wx gy 69 #[.int .u16 (k0 : Int), .int .u16 (k1 : Int)] ∧ Bw w4 wx)
      case first =>
        go_region_held3 (fun V => V.cell? ⟨ta, 1, none⟩ = some (.slice (some ⟨ga, oa, none⟩) l ca) ∧ V.cell? ⟨tb, 1, none⟩ = some (.slice (some ⟨gb, ob, none⟩) m cb) ∧ V.cell? ⟨ga, oa + i * 2, none⟩ = some (.int .u16 (j0 : Int)) ∧ V.cell? ⟨ga, oa + i * 2 + 1, none⟩ = some (.int .u16 (j1 : Int)) ∧ V.cell? ⟨gb, ob + i * 2, none⟩ = some (.int .u16 (k0 : Int)) ∧ V.cell? ⟨gb, ob + i * 2 + 1, none⟩ = some (.int .u16 (k1 : Int))) ((refine HSC.out _ ?_; (repeat (first | exact Bw.rf _ | refine Bw.al ?_ _ | refine Bw.dr ?_ | fail)))) (fail)
        all_goals
          go_wp2_with fail
          go_meet
          first
            | exact ⟨_, _, rfl, rfl, (new_two w4 _ _ _).1, (new_two w4 _ _ _).2.1, (new_two w4 _ _ _).2.2⟩
            | exact ⟨_, _, rfl, rfl, (new_two w4 _ _ _).2.1, (new_two w4 _ _ _).1, (new_two w4 _ _ _).2.2⟩
            | fail
      case rest =>
        obtain ⟨gx, gy, rfl, rfl, hgx, hgy, hbc⟩ := hcut
        have c0 := hgx.cell 0
        have c1 := hgx.cell 1
        have e0 := hgy.cell 0
        have e1 := hgy.cell 1
        simp at c0 c1 e0 e1
        have HTC2 := Lib.hid (HB4.out.go hbc)
        obtain ⟨hi2, hj0, hj1, hk0, hk1⟩ := HSL.out
        have pL := Lib.hid (rline_new wc wInputs [(i : Int), (j0 : Int), (j1 : Int), (k0 : Int), (k1 : Int)] 5 #[.int .i64 (i : Int), .int .i64 (j0 : Int), .int .i64 (j1 : Int), .int .i64 (k0 : Int), .int .i64 (k1 : Int)] rfl rfl (by omega) H64.out (by decide))
        obtain ⟨T, hT⟩ : ∃ T, T = lineS wInputs [(i : Int), (j0 : Int), (j1 : Int), (k0 : Int), (k1 : Int)] := ⟨_, rfl⟩
        have hzT : T.size ≤ 200 := by
          have := lineS_size (s := wInputs) H64.out
          rw [← hT] at this
          simp only [List.length_cons, List.length_nil, show wInputs.size = 6 from rfl] at this
          omega
        have hS := HS.out
        rw [← hT] at pL hS
        unfold wInputs at pL
        have HSE := Lib.hid hS
        have g1 : ¬ 9223372036854775807 < S1.size + T.size := by omega
        clear hT hS hgx hgy hbc HSC
        go_wp2_with fail
        refine pL.out.mono ?_
        rintro e w5 ⟨rfl, b5⟩
        have HB5 := Lib.hid (HTC2.out.go b5)
        clear c0 c1 e0 e1 b5 pL
        go_wp2_with fail
        go_meet
        exact ⟨by rw [HSE.out], rfl, HB5.out, by rw [HSE.out, ByteArray.size_append]; omega⟩
  case rest =>
    obtain ⟨rfl, rfl, hbc, hz2⟩ := hcut
    have HBC := Lib.hid hbc
    obtain ⟨x0, x1, y0, y1⟩ := HTC.out wc hbc
    obtain ⟨ra, rb⟩ := HIA.out wc hbc
    have hpf := rfirst_any wc sd so hs ho a b ca cb ls os ra rb hl hm hla hlb hca hcb hna hnb
    rw [HLL.out, HMM.out] at hpf
    have pF := Lib.hid hpf
    clear ra rb hpf HQ0 HQ1 HQ HB3 HB4 hqf hbc
    go_wp2_with fail
    refine pF.out.mono ?_
    rintro e w7 ⟨rfl, b7⟩
    have HB7 := Lib.hid (HBC.out.go b7)
    clear x0 x1 y0 y1 pF b7
    obtain ⟨q1, hq1⟩ : ∃ q, q = firstV sd ls so os := ⟨_, rfl⟩
    rw [← hq1]
    have hff := firstV_form sd ls so os
    rw [← hq1] at hff
    rcases hff with rfl | ⟨i, rfl, hil, him⟩
    · have HV := Lib.hid (show tellV sd ls so os = S2 ++ wSame by rw [tellV, ← hq1, HS2.out]; rfl)
      have g1 : ¬ 9223372036854775807 < S2.size + 5 := by omega
      clear hq1
      go_wp2_with fail
      go_ret
      exact ⟨by rw [HV.out]; rfl, HBW.out _ HB7.out⟩
    · have HV := Lib.hid (show tellV sd ls so os = tellK (stK sd ls i) (stK so os i) (S2 ++ lineS wPart [(i : Int)]) 66 by rw [tellV, ← hq1, HS2.out]; rfl)
      have hi2 : i ≤ 20000 := by omega
      have h64 : I64s [(i : Int)] := by
        intro n hn
        simp at hn
        subst hn
        omega
      have pL := Lib.hid (rline_new w7 wPart [(i : Int)] 1 #[.int .i64 (i : Int)] rfl rfl (by omega) h64 (by decide))
      obtain ⟨T, hT⟩ : ∃ T, T = lineS wPart [(i : Int)] := ⟨_, rfl⟩
      have hzT : T.size ≤ 200 := by
        have := lineS_size (s := wPart) h64
        rw [← hT] at this
        simp only [List.length_cons, List.length_nil, show wPart.size = 4 from rfl] at this
        omega
      rw [← hT] at pL HV
      unfold wPart at pL
      have HIL := Lib.hid (show i ≤ ls.length ∧ i ≤ os.length from ⟨hil, him⟩)
      have g0 : ¬ (i : Int) < 0 := by omega
      have g1 : ¬ 9223372036854775807 < S2.size + T.size := by omega
      clear hq1 hT h64 hil him
      go_wp2_with fail
      refine pL.out.mono ?_
      rintro e w9 ⟨rfl, b9⟩
      have HB9 := Lib.hid (HB7.out.go b9)
      clear b9 pL
      go_upto_region 10 with fail
      obtain ⟨x0, x1, y0, y1⟩ := HTC.out w9 HB9.out
      obtain ⟨C, LC⟩ := let_of (stK sd ls i)
      obtain ⟨D, LD⟩ := let_of (stK so os i)
      have hwf := stK_wf sd hs ls hi2
      have hwg := stK_wf so ho os hi2
      have pA := Lib.hid (show ∀ V, Bw w9 V → Calls Try.prog 66 #[.agg #[.int .u32 (sd : Int), .slice a l ca], .int .i64 (i : Int)] V fun e w' => e = .returned (.agg C) ∧ Bw V w' from fun V h => by
        have := state36_any V sd hs a ca ls (i : Int) (HIA.out V (HB9.out.go h)).1 hl hla hca hna
        rw [show stAt sd ls (i : Int) = stK sd ls i by rw [stAt, stK, nOf_at HIL.out.1], HLL.out] at this
        unfold stV at this
        rw [← LC.eq] at this
        exact this)
      have pB := Lib.hid (show ∀ V, Bw w9 V → Calls Try.prog 66 #[.agg #[.int .u32 (so : Int), .slice b m cb], .int .i64 (i : Int)] V fun e w' => e = .returned (.agg D) ∧ Bw V w' from fun V h => by
        have := state36_any V so ho b cb os (i : Int) (HIA.out V (HB9.out.go h)).2 hm hlb hcb hnb
        rw [show stAt so os (i : Int) = stK so os i by rw [stAt, stK, nOf_at HIL.out.2], HMM.out] at this
        unfold stV at this
        rw [← LD.eq] at this
        exact this)
      obtain ⟨f, hf⟩ : ∃ f, f = stK sd ls i := ⟨_, rfl⟩
      obtain ⟨g, hg⟩ : ∃ g, g = stK so os i := ⟨_, rfl⟩
      rw [← hf] at hwf LC HV
      rw [← hg] at hwg LD HV
      have pC := Lib.hid (fun V => numbers_any V f hwf)
      have pD := Lib.hid (fun V => numbers_any V g hwg)
      unfold stV at pC pD
      rw [← LC.eq] at pC
      rw [← LD.eq] at pD
      have HWF := Lib.hid hwf
      have HWG := Lib.hid hwg
      have d0 := Bw.drew0 w9
      have HSC := Lib.hid (show ∀ V, Bw w9 V → V.cell? ⟨ta, 0, none⟩ = some (.int .u32 (sd : Int)) ∧ V.cell? ⟨ta, 1, none⟩ = some (.slice a l ca) ∧ V.cell? ⟨tb, 0, none⟩ = some (.int .u32 (so : Int)) ∧ V.cell? ⟨tb, 1, none⟩ = some (.slice b m cb) from fun V h => HTC.out V (HB9.out.go h))
      clear LC LD hwf hwg x0 x1 y0 y1 hf hg
      go_region_held3 (fun V => V.cell? ⟨ta, 0, none⟩ = some (.int .u32 (sd : Int)) ∧ V.cell? ⟨ta, 1, none⟩ = some (.slice a l ca) ∧ V.cell? ⟨tb, 0, none⟩ = some (.int .u32 (so : Int)) ∧ V.cell? ⟨tb, 1, none⟩ = some (.slice b m cb)) (first | exact HSC.out _ d0 | exact HSC.out _ dN | exact HSC.out _ dA | exact HSC.out _ dX | exact HSC.out _ dB | exact HSC.out _ dY | fail)
        (first
          | (go_at_call 16; (with_reducible refine (names_any _).mono ?_); rintro e wN ⟨vN, rfl, gN⟩; have dN : Bw w9 wN := d0.go gN.bw)
          | (go_at_call 66; (with_reducible refine (pA.out _ dN).mono ?_); rintro e wA ⟨rfl, bA⟩; have dA : Bw w9 wA := dN.go bA)
          | (go_at_call 17; (with_reducible refine (pC.out _).mono ?_); rintro e wX ⟨vX, rfl, gX⟩; have bX := gX.bw; have dX : Bw w9 wX := dA.go bX)
          | (go_at_call 66; (with_reducible refine (pB.out _ dX).mono ?_); rintro e wB ⟨rfl, bB⟩; have dB : Bw w9 wB := dX.go bB)
          | (go_at_call 17; (with_reducible refine (pD.out _).mono ?_); rintro e wY ⟨vY, rfl, gY⟩; have bY := gY.bw; have dY : Bw w9 wY := dB.go bY)
          | fail)
      obtain ⟨gn, cn, rfl, ltn, cen⟩ := gN.names
      obtain ⟨gx, cx, rfl, ltx, cex⟩ := gX.nums
      obtain ⟨gy, cy, rfl, lty, cey⟩ := gY.nums
      have hNY : Bw wN wY := (((bA.go bX).go bB).go bY)
      have hXY : Bw wX wY := bB.go bY
      have HTRI := Lib.hid (show ∀ V, Bw wY V → Tri V gn gx gy f g from fun V h i hi => ⟨(Below.cell (p := ⟨gn, i, none⟩) (hNY.go h) ltn).trans (cen i hi), (Below.cell (p := ⟨gx, i, none⟩) (hXY.go h) ltx).trans (cex i hi), (Below.cell (p := ⟨gy, i, none⟩) h lty).trans (cey i hi)⟩)
      have HBY := Lib.hid (HB9.out.go dY)
      obtain ⟨S3, hS3⟩ : ∃ S, S = S2 ++ T := ⟨_, rfl⟩
      have hz4 : S3.size ≤ 600 := by rw [hS3, ByteArray.size_append]; omega
      rw [← hS3] at HV ⊢
      clear gN gX gY dN dA bX dX dB bY dY bA bB cen cex cey ltn ltx lty hNY hXY d0 HSC pA pB pC pD hS3 g0 g1
      have HZ4 := Lib.hid hz4
      clear hz4
      go_wp2_with fail
      go_loopw [5, 12] (fun sv nv wr => ∃ n : Nat, n ≤ 66 ∧ sv = .string (tellK f g S3 n) ∧ nv = .int .i64 (n : Int) ∧ Bw wY wr) (fun _ nv _ => 66 - (intOf nv).toNat)
      case atStart => exact ⟨0, by omega, rfl, rfl, Bw.rf _⟩
      case round =>
        obtain ⟨n, hn, rfl, rfl, hb⟩ := hrel
        have HB := Lib.hid hb
        clear hb
        by_cases hlt : n < 66
        · have n0 : (0 : Int) ≤ (n : Int) := by omega
          have n1 : (n : Int) < 66 := by omega
          obtain ⟨c0, c1, c2⟩ := HTRI.out _ HB.out n hlt
          have hst : nth (nuC f) n = nth (nuC g) n → tellK f g S3 (n + 1) = tellK f g S3 n := fun h => tellK_no S3 h
          have hsf : nth (nuC f) n ≠ nth (nuC g) n → tellK f g S3 (n + 1) = tellK f g S3 n ++ lineS (nmAt n) [nth (nuC f) n, nth (nuC g) n] := fun h => tellK_yes S3 h
          have hsz := tellK_size HWF.out HWG.out S3 n
          have hz4 := HZ4.out
          have h6 := nth_i64 HWF.out n
          have h7 := nth_i64 HWG.out n
          have hns := nmAt_size n
          have HCC := Lib.hid (show ∀ V, Bw wr V → V.cell? ⟨gn, n, none⟩ = some (.string (nmAt n)) ∧ V.cell? ⟨gx, n, none⟩ = some (.int .i64 (nth (nuC f) n)) ∧ V.cell? ⟨gy, n, none⟩ = some (.int .i64 (nth (nuC g) n)) from fun V h => HTRI.out V (HB.out.go h) n hlt)
          obtain ⟨x, hx⟩ : ∃ x, nth (nuC f) n = x := ⟨_, rfl⟩
          obtain ⟨y, hy⟩ : ∃ y, nth (nuC g) n = y := ⟨_, rfl⟩
          obtain ⟨s, hs'⟩ : ∃ s, nmAt n = s := ⟨_, rfl⟩
          obtain ⟨X, hX⟩ : ∃ X, tellK f g S3 n = X := ⟨_, rfl⟩
          rw [hx] at c1 hst hsf h6 HCC
          rw [hy] at c2 hst hsf h7 HCC
          rw [hs'] at c0 hsf hns HCC
          rw [hX] at hst hsf hsz ⊢
          have h64 : I64s [x, y] := by
            intro n hn
            simp at hn
            rcases hn with rfl | rfl
            · exact h6
            · exact h7
          have hzl := lineS_size (s := s) h64
          simp only [List.length_cons, List.length_nil] at hzl
          have pL := Lib.hid (show ∀ V, Calls Try.prog 65 #[.string s, .slice (some ⟨V.heap.size, 0, none⟩) 2 2] (V.alloc (.cells #[.int .i64 x, .int .i64 y] 2)) fun e w' => e = .returned (.string (lineS s [x, y])) ∧ Bw V w' from fun V => rline_new V s [x, y] 2 _ rfl rfl (by omega) h64 (by omega))
          obtain ⟨L, hL⟩ : ∃ L, L = lineS s [x, y] := ⟨_, rfl⟩
          rw [← hL] at hsf hzl pL
          have g1 : ¬ 9223372036854775807 < X.size + L.size := by omega
          have HST := Lib.hid hst
          have HSF := Lib.hid hsf
          have HLT := Lib.hid hlt
          clear hst hsf hsz hz4 h6 h7 hns hx hy hs' hX h64 hzl hL hn hlt
          go_upto_region 14 with fail
          by_cases hxy : x = y
          · have HXY := Lib.hid hxy
            subst hxy
            go_quiet (fail)
            clear c0 c1 c2
            go_wp2_with fail
            go_roundw
            case rel => exact ⟨n + 1, HLT.out, by rw [HST.out rfl], by go_num, HB.out.go (below_drewN (Below.refl _ _) _)⟩
            case measure => have := HLT.out; simp [intOf]; omega
          · have HXY := Lib.hid hxy
            go_quiet (fail)
            obtain ⟨V, hV⟩ : ∃ V, V = wr.drewN nq := ⟨_, rfl⟩
            have hbV : Bw wr V := by rw [hV]; exact below_drewN (Below.refl _ _) _
            rw [← hV]
            have HBV := Lib.hid hbV
            clear c0 c1 c2 hV hbV
            obtain ⟨c0, c1, c2⟩ := HCC.out V HBV.out
            have hc0 : V.drew.cell? ⟨gn, n, none⟩ = some (.string s) ∧ V.drew.cell? ⟨gx, n, none⟩ = some (.int .i64 x) ∧ V.drew.cell? ⟨gy, n, none⟩ = some (.int .i64 y) := ⟨c0, c1, c2⟩
            have HVV := Lib.hid (show ∀ U, Bw V U → U.cell? ⟨gn, n, none⟩ = some (.string s) ∧ U.cell? ⟨gx, n, none⟩ = some (.int .i64 x) ∧ U.cell? ⟨gy, n, none⟩ = some (.int .i64 y) from fun U h => HCC.out U (HBV.out.go h))
            go_upto_region 15 with fail
            go_region_held3 (fun U => U.cell? ⟨gn, n, none⟩ = some (.string s) ∧ U.cell? ⟨gx, n, none⟩ = some (.int .i64 x) ∧ U.cell? ⟨gy, n, none⟩ = some (.int .i64 y)) (first | exact hc0 | exact HVV.out _ (Bw.dr (Bw.al (Bw.rf _) _)) | exact HVV.out _ (Bw.al (Bw.dr (Bw.rf _)) _) | exact HVV.out _ dL | fail)
              (first
                | (go_at_call 65; refine (pL.out V.drew).mono ?_; rintro e wL ⟨rfl, bL⟩; have dL : Bw V wL := (Bw.drew0 V).go bL)
                | fail)
            have HL2 := Lib.hid ((HB.out.go HBV.out).go dL)
            clear c0 c1 c2 hc0 HVV dL
            go_wp2_with fail
            go_roundw
            case rel => exact ⟨n + 1, HLT.out, by rw [HSF.out HXY.out], by go_num, HL2.out⟩
            case measure => have := HLT.out; simp [intOf]; omega
        · obtain rfl : n = 66 := by omega
          rw [show ((66 : Nat) : Int) = 66 from rfl]
          clear hn hlt
          go_wp2_with fail
          go_ret
          exact ⟨by rw [HV.out]; rfl, HBW.out _ (HBY.out.go HB.out)⟩
end Go.Proofs.Ytlhoffhagfhbcaa.Dif
namespace Go.Proofs.Ytlhoffhagfhbcaa.Dif
open Go.RowKit Go.Sort Go.Proofs.Ytlhoffhagfhbcaa.Byt Go.Proofs.Ytlhoffhagfhbcaa.Gm Go.Proofs.Ytlhoffhagfhbcaa.Num Go.Proofs.Ytlhoffhagfhbcaa.Spe
set_option linter.all false

theorem numS0 : numS 0 = { data := #[48] } := rfl
theorem numS1 : numS 1 = { data := #[49] } := by
  have h : numL 1 = [49] := by
    rw [numL, show (1 : Int).natAbs = 1 from rfl, dg_pos (by omega), dgz_cons (by omega), show 1 / 10 = 0 from rfl, dgz_zero]
    rfl
  rw [numS, h]; rfl
theorem numS2 : numS 2 = { data := #[50] } := by
  have h : numL 2 = [50] := by
    rw [numL, show (2 : Int).natAbs = 2 from rfl, dg_pos (by omega), dgz_cons (by omega), show 2 / 10 = 0 from rfl, dgz_zero]
    rfl
  rw [numS, h]; rfl
theorem dix_new : dix (newF 1) (newF 2) 66 = [1] := by kernel_rfl
theorem nu_new1 : nth (nuC (newF 1)) 1 = 1 := by kernel_rfl
theorem nu_new2 : nth (nuC (newF 2)) 1 = 2 := by kernel_rfl
theorem nm_one : nmAt 1 = { data := #[115, 101, 101, 100] } := by kernel_rfl
def awakeT : ByteArray := { data := #[102, 114, 97, 109, 101, 115, 32, 48, 32, 48, 10, 112, 97, 114, 116, 32, 48, 10, 115, 101, 101, 100, 32, 49, 32, 50, 10] }
theorem eqS_new : eqS 1 [] 2 [] 0 = false := by
  cases h : eqS 1 [] 2 [] 0
  · rfl
  · have h1 := (eqS_iff 1 [] 2 [] 0).1 h
    have h2 := congrArg (fun a => a[1]?) h1
    simp only [stA_get _ (show 1 < 66 by omega)] at h2
    have h3 := Option.some.inj h2
    rw [cv_seed, cv_seed] at h3
    have e1 : (stK 1 [] 0) 1 = 1 := by kernel_rfl
    have e2 : (stK 2 [] 0) 1 = 2 := by kernel_rfl
    rw [e1, e2] at h3
    cases h3
theorem tell_new : tellV 1 [] 2 [] = awakeT := by
  have hf : firstV 1 [] 2 [] = 0 := by
    rw [firstV]
    exact fstF_yes (by rw [neS, eqS_new]; rfl)
  have hi : inputsV [] [] = -1 := rfl
  have ha : tellA [] [] = lineS wFrames [0, 0] := by rw [tellA, hi]; rfl
  rw [tellV, hf, ha]
  show tellK (newF 1) (newF 2) (lineS wFrames [0, 0] ++ lineS wPart [0]) 66 = awakeT
  rw [tellK, dix_new]
  show lineS wFrames [0, 0] ++ lineS wPart [0] ++ dLine (newF 1) (newF 2) 1 = awakeT
  rw [dLine, nu_new1, nu_new2, nm_one]
  simp only [lineS, wordsS, numS0, numS1, numS2]
  kernel_rfl

theorem inRow_nil (w : World) : InRow w none [] := ⟨fun x hx => (by cases hx), fun h => (by simp at h)⟩
set_option maxRecDepth 100000 in
set_option maxHeartbeats 2000000 in
theorem awake36 (w : World) : Calls Try.prog 14 #[] w fun e w' => e = .returned (.bool true) ∧ Below w.heap.size w w' := by
  have p := Lib.hid (tell_any w 1 2 (by omega) (by omega) none none 0 0 [] [] (inRow_nil w) (inRow_nil w) (by simp) (by simp) (by simp) (by simp) (by omega) (by omega) (fun _ => rfl) (fun _ => rfl))
  rw [tell_new] at p
  have p' : Hid (Calls Try.prog 20 #[.agg #[.int .u32 1, .slice none 0 0], .agg #[.int .u32 2, .slice none 0 0]] w fun e w' => e = .returned (.string awakeT) ∧ Below w.heap.size w w') := p
  unfold awakeT at p'
  clear p
  go_enter Try.func14, Try.ntmps14
  go_wp2_with fail
  refine p'.out.mono ?_
  rintro e w2 ⟨rfl, b2⟩
  have HB := Lib.hid b2
  clear b2 p'
  go_wp2_with fail
  go_ret
  exact ⟨rfl, HB.out⟩

theorem infoT36 : (Try.prog.info? 53).map (·.size) = some 2 := by kernel_rfl
set_option maxRecDepth 100000 in
set_option maxHeartbeats 2000000 in
theorem ref_any (w : World) (sd : Nat) (a : Option Addr) (l c : Nat) : Calls Try.prog 22 #[.agg #[.int .u32 (sd : Int), .slice a l c]] w fun e w' => e = .returned (.agg #[.int .u32 (sd : Int), .slice a l c]) ∧ Below w.heap.size w w' := by
  obtain ⟨W2, hW2⟩ : ∃ W2, W2 = (w.alloc (.cells #[.int .u32 (sd : Int), .slice a l c] 49)).alloc (.cells #[.int .u32 (sd : Int), .slice a l c] 53) := ⟨_, rfl⟩
  have hb : Blk W2 (w.heap.size + 1) 53 #[.int .u32 (sd : Int), .slice a l c] := by
    have := Blk.new (w.alloc (.cells #[.int .u32 (sd : Int), .slice a l c] 49)) 53 #[.int .u32 (sd : Int), .slice a l c]
    rw [World.size_alloc] at this
    rw [hW2]; exact this
  have hbw : Below w.heap.size w W2 := by rw [hW2]; exact ((Below.refl _ w).alloc (Nat.le_refl _) _).alloc (by simp) _
  have HB := Lib.hid hb
  have HBW := Lib.hid hbw
  clear hb hbw
  go_enter Try.func22, Try.ntmps22
  go_wp2_with fail
  rw [← hW2]
  refine bodyPost_ret (v := .agg #[.int .u32 (sd : Int), .slice a l c]) (results_blk Try.results22 _ _ (w.heap.size + 1) _ _ _ (by rfl) HB.out Try.underlying53 (by rfl) infoT36) rfl ⟨rfl, HBW.out⟩

set_option maxRecDepth 100000 in
set_option maxHeartbeats 2000000 in
theorem small_any (w : World) (sd so : Nat) (a b : Option Addr) (l m ca cb : Nat) : Calls Try.prog 19 #[.agg #[.int .u32 (sd : Int), .slice a l ca], .agg #[.int .u32 (so : Int), .slice b m cb]] w fun e w' => e = .returned (.bool (decide (l ≤ 100) && decide (m ≤ 100))) ∧ Below w.heap.size w w' := by
  by_cases h1 : l ≤ 100
  · have h1' : (l : Int) ≤ 100 := by omega
    by_cases h2 : m ≤ 100
    · have h2' : (m : Int) ≤ 100 := by omega
      have HB := Lib.hid (show Below w.heap.size w ((w.alloc (.cells #[.int .u32 (sd : Int), .slice a l ca] 49)).alloc (.cells #[.int .u32 (so : Int), .slice b m cb] 49)) from ((Below.refl _ w).alloc (Nat.le_refl _) _).alloc (by simp) _)
      rw [decide_eq_true h1, decide_eq_true h2]
      clear h1 h2
      go_enter Try.func19, Try.ntmps19
      go_wp2_with fail
      go_ret
      exact ⟨rfl, HB.out⟩
    · have h2' : ¬ (m : Int) ≤ 100 := by omega
      have HB := Lib.hid (show Below w.heap.size w ((w.alloc (.cells #[.int .u32 (sd : Int), .slice a l ca] 49)).alloc (.cells #[.int .u32 (so : Int), .slice b m cb] 49)) from ((Below.refl _ w).alloc (Nat.le_refl _) _).alloc (by simp) _)
      rw [decide_eq_true h1, decide_eq_false h2]
      clear h1 h2
      go_enter Try.func19, Try.ntmps19
      go_wp2_with fail
      go_ret
      exact ⟨rfl, HB.out⟩
  · have h1' : ¬ (l : Int) ≤ 100 := by omega
    have HB := Lib.hid (show Below w.heap.size w ((w.alloc (.cells #[.int .u32 (sd : Int), .slice a l ca] 49)).alloc (.cells #[.int .u32 (so : Int), .slice b m cb] 49)) from ((Below.refl _ w).alloc (Nat.le_refl _) _).alloc (by simp) _)
    rw [decide_eq_false h1]
    clear h1
    go_enter Try.func19, Try.ntmps19
    go_wp2_with fail
    go_ret
    exact ⟨rfl, HB.out⟩
end Go.Proofs.Ytlhoffhagfhbcaa.Dif
