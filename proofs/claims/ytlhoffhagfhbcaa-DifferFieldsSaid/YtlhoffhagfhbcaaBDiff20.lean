/-
  Texts joined: DfI, DfJ, DfK. No condition.
-/
import Derived.Test.YtlhoffhagfhbcaaBDiff19
import Derived.Lib.OthersKept
import Derived.Lib.UnsafeStr
import Derived.Lib.Builder
import Derived.Shelf.RegionOpenPlain
namespace Go.Proofs.Ytlhoffhagfhbcaa.Dif
open Go.RowKit Go.Sort Go.Proofs.Ytlhoffhagfhbcaa.Byt Go.Proofs.Ytlhoffhagfhbcaa.Gm Go.Proofs.Ytlhoffhagfhbcaa.Num Go.Proofs.Ytlhoffhagfhbcaa.Spe
set_option linter.all false

theorem fstF_at {p : Nat → Bool} {i : Nat} (hi : p i = true) : ∀ (k n : Nat), n ≤ i → i < n + k → (∀ j, n ≤ j → j < i → p j = false) → fstF p k n = (i : Int)
  | 0, n, h1, h2, _ => by omega
  | k + 1, n, h1, h2, h3 => by
    by_cases e : n = i
    · subst e; exact fstF_yes hi
    · rw [fstF_no (h3 n (Nat.le_refl _) (by omega))]
      exact fstF_at hi k (n + 1) (by omega) (by omega) (fun j hj hji => h3 j (by omega) hji)
theorem fstF_none {p : Nat → Bool} : ∀ (k n : Nat), (∀ j, n ≤ j → j < n + k → p j = false) → fstF p k n = -1
  | 0, n, _ => rfl
  | k + 1, n, h => by
    rw [fstF_no (h n (Nat.le_refl _) (by omega))]
    exact fstF_none k (n + 1) (fun j hj hjk => h j (by omega) (by omega))
def inNe (ls os : List (Nat × Nat)) (j : Nat) : Bool := decide (ls[j]? ≠ os[j]?)
def inputsV (ls os : List (Nat × Nat)) : Int := fstF (inNe ls os) (min ls.length os.length) 0

/-- Two tapes laid as boxes. -/
structure TwoT (w W1 : World) (ta tb : Nat) (tt : TypeId) (sd : Nat) (a : Option Addr) (l ca : Nat) (so : Nat) (b : Option Addr) (m cb : Nat) : Prop where
  x : Blk W1 ta tt #[.int .u32 (sd : Int), .slice a l ca]
  y : Blk W1 tb tt #[.int .u32 (so : Int), .slice b m cb]
  below : Below w.heap.size w W1
theorem TwoT.new (w : World) (tt : TypeId) (sd : Nat) (a : Option Addr) (l ca : Nat) (so : Nat) (b : Option Addr) (m cb : Nat) :
    TwoT w ((w.alloc (.cells #[.int .u32 (sd : Int), .slice a l ca] tt)).alloc (.cells #[.int .u32 (so : Int), .slice b m cb] tt)) w.heap.size (w.heap.size + 1) tt sd a l ca so b m cb := by
  refine ⟨(Blk.new w _ _).alloc _, ?_, ((Below.refl _ w).alloc (Nat.le_refl _) _).alloc (by simp) _⟩
  have := Blk.new (w.alloc (.cells #[.int .u32 (sd : Int), .slice a l ca] tt)) tt #[.int .u32 (so : Int), .slice b m cb]
  simpa using this

set_option maxRecDepth 100000 in
set_option maxHeartbeats 8000000 in
theorem inputs_any (w : World) (sd so : Nat) (a b : Option Addr) (ca cb : Nat) (ls os : List (Nat × Nat)) (hra : InRow w a ls) (hrb : InRow w b os) (hl : ls.length ≤ 20000) (hm : os.length ≤ 20000) :
    Calls Try.prog 25 #[.agg #[.int .u32 (sd : Int), .slice a ls.length ca], .agg #[.int .u32 (so : Int), .slice b os.length cb]] w fun e w' => e = .returned (.int .i64 (inputsV ls os)) ∧ Below w.heap.size w w' := by
  obtain ⟨l, hll⟩ : ∃ l, ls.length = l := ⟨_, rfl⟩
  obtain ⟨m, hmm⟩ : ∃ m, os.length = m := ⟨_, rfl⟩
  rw [hll, hmm]
  obtain ⟨ta, hta⟩ : ∃ t, t = w.heap.size := ⟨_, rfl⟩
  obtain ⟨tb, htb⟩ : ∃ t, t = w.heap.size + 1 := ⟨_, rfl⟩
  obtain ⟨W1, hW1⟩ : ∃ W1, W1 = (w.alloc (.cells #[.int .u32 (sd : Int), .slice a l ca] 49)).alloc (.cells #[.int .u32 (so : Int), .slice b m cb] 49) := ⟨_, rfl⟩
  have hT : TwoT w W1 ta tb 49 sd a l ca so b m cb := by rw [hW1, hta, htb]; exact TwoT.new ..
  have hp := cut_any W1 sd so a b ca cb ls os (inRow_pre hra hT.below) (inRow_pre hrb hT.below) hl hm
  rw [hll, hmm] at hp
  have p := Lib.hid hp
  have HT := Lib.hid hT
  have x0 := hT.x.cell 0
  have x1 := hT.x.cell 1
  have y0 := hT.y.cell 0
  have y1 := hT.y.cell 1
  simp at x0 x1 y0 y1
  have HLL := Lib.hid hll
  have HMM := Lib.hid hmm
  clear hp hT hll hmm
  go_enter Try.func25, Try.ntmps25
  go_upto_region 1 with fail
  rw [← hW1, ← htb, ← hta]
  clear hW1 hta htb
  go_wp2_with fail
  refine p.out.mono ?_
  rintro e w2 ⟨k, rfl, hk1, hk2, hk3, hk4, b2⟩
  have x1 := (HT.out.x.below b2 HT.out.x.lt).cell 1
  have y1 := (HT.out.y.below b2 HT.out.y.lt).cell 1
  simp at x1 y1
  have HB := Lib.hid (Below.trans HT.out.below (Below.mono b2 HT.out.below.size))
  have hne : ∀ j, j < k → inNe ls os j = false := fun j hj => by rw [inNe, hk3 j hj]; simp
  have hv1 : k < l → k < m → inputsV ls os = (k : Int) := fun h1 h2 => by
    rw [inputsV, HLL.out, HMM.out]
    exact fstF_at (by rw [inNe]; exact decide_eq_true (hk4 h1 h2)) _ 0 (Nat.zero_le _) (by omega) (fun j _ hj => hne j hj)
  have hv2 : ¬ (k < l ∧ k < m) → inputsV ls os = -1 := fun h => by
    rw [inputsV, HLL.out, HMM.out]
    exact fstF_none _ 0 (fun j _ hj => hne j (by omega))
  have HV1 := Lib.hid hv1
  have HV2 := Lib.hid hv2
  clear hk1 hk2 hk3 hk4 hne hv1 hv2 b2 p
  by_cases h1 : k < l
  · have h1' : (k : Int) < (l : Int) := by omega
    by_cases h2 : k < m
    · have h2' : (k : Int) < (m : Int) := by omega
      go_wp2_with fail
      go_ret
      exact ⟨by rw [HV1.out h1 h2]; rfl, HB.out⟩
    · have h2' : ¬ (k : Int) < (m : Int) := by omega
      go_wp2_with fail
      go_ret
      exact ⟨by rw [HV2.out (fun h => h2 h.2)]; rfl, HB.out⟩
  · have h1' : ¬ (k : Int) < (l : Int) := by omega
    go_wp2_with fail
    go_ret
    exact ⟨by rw [HV2.out (fun h => h1 h.1)]; rfl, HB.out⟩

set_option maxRecDepth 100000 in
set_option maxHeartbeats 4000000 in
theorem both_any (w : World) (sd so : Nat) (a b : Option Addr) (l m ca cb : Nat) :
    Calls Try.prog 67 #[.agg #[.int .u32 (sd : Int), .slice a l ca], .agg #[.int .u32 (so : Int), .slice b m cb]] w fun e w' => e = .returned (.int .i64 (min l m : Nat)) ∧ Below w.heap.size w w' := by
  obtain ⟨ta, hta⟩ : ∃ t, t = w.heap.size := ⟨_, rfl⟩
  obtain ⟨tb, htb⟩ : ∃ t, t = w.heap.size + 1 := ⟨_, rfl⟩
  obtain ⟨W1, hW1⟩ : ∃ W1, W1 = (w.alloc (.cells #[.int .u32 (sd : Int), .slice a l ca] 53)).alloc (.cells #[.int .u32 (so : Int), .slice b m cb] 53) := ⟨_, rfl⟩
  have hT : TwoT w W1 ta tb 53 sd a l ca so b m cb := by rw [hW1, hta, htb]; exact TwoT.new ..
  have x1 := hT.x.cell 1
  have y1 := hT.y.cell 1
  simp at x1 y1
  have HT := Lib.hid hT
  obtain ⟨k, hk⟩ : ∃ k : Int, k = (min l m : Nat) := ⟨_, rfl⟩
  rw [← hk]
  have HK := Lib.hid hk
  clear hT hk
  go_enter Try.func67, Try.ntmps67
  go_upto_region 1 with fail
  rw [← hW1, ← htb, ← hta]
  clear hW1 hta htb
  by_cases hml : (m : Int) < (l : Int)
  · have hk2 : (m : Int) = k := by have := HK.out; omega
    go_wp2_with fail
    go_ret
    exact ⟨rfl, HT.out.below⟩
  · have hk2 : (l : Int) = k := by have := HK.out; omega
    go_wp2_with fail
    go_ret
    exact ⟨rfl, HT.out.below⟩

set_option maxRecDepth 100000 in
set_option maxHeartbeats 4000000 in
theorem state36_any (w : World) (sd : Nat) (hs : sd < 4294967296) (a : Option Addr) (cap : Nat) (ls : List (Nat × Nat)) (fr : Int) (hr : InRow w a ls) (hl : ls.length ≤ 20000) (hcap : ls.length ≤ cap) (hc2 : cap ≤ 9223372036854775807) (hn : a = none → cap = 0) :
    Calls Try.prog 66 #[.agg #[.int .u32 (sd : Int), .slice a ls.length cap], .int .i64 fr] w fun e w' => e = .returned (stV (stAt sd ls fr)) ∧ Below w.heap.size w w' := by
  obtain ⟨l, hll⟩ : ∃ l, ls.length = l := ⟨_, rfl⟩
  obtain ⟨C, LC⟩ := let_of (stAt sd ls fr)
  obtain ⟨W1, hW1⟩ : ∃ W1, W1 = (w.alloc (.cells #[.int .u32 (sd : Int), .slice a l cap] 53)).alloc (.cells Try.zeroCells31 31) := ⟨_, rfl⟩
  have hX : Blk W1 w.heap.size 53 #[.int .u32 (sd : Int), .slice a l cap] := by rw [hW1]; exact (Blk.new w _ _).alloc _
  have hR : Blk W1 (w.heap.size + 1) 31 Try.zeroCells31 := by
    rw [hW1]
    have := Blk.new (w.alloc (.cells #[.int .u32 (sd : Int), .slice a l cap] 53)) 31 Try.zeroCells31
    simpa using this
  have hB : Below w.heap.size w W1 := by rw [hW1]; exact ((Below.refl _ w).alloc (Nat.le_refl _) _).alloc (by simp) _
  have hz1 : W1.heap.size = w.heap.size + 2 := by rw [hW1]; simp
  have x0 := hX.cell 0
  have x1 := hX.cell 1
  simp at x0 x1
  have hp := rstate_any W1 sd hs a cap ls fr (inRow_pre hr hB) hl hcap hc2 hn
  unfold stV at hp ⊢
  rw [hll, ← LC.eq] at hp
  rw [hll, ← LC.eq]
  have p := Lib.hid hp
  have HR := Lib.hid hR
  have HB := Lib.hid hB
  have HZ := Lib.hid hz1
  have hif := LC.info
  have hone := LC.one
  have hzc : Try.zeroCells31.size = C.size := by rw [hz66, LC.size]
  clear hp hX hR hB LC hll hz1
  go_enter Try.func66, Try.ntmps66
  go_upto_region 1 with fail
  rw [← hW1]
  clear hW1
  go_wp2_with fail
  refine p.out.mono ?_
  rintro e w2 ⟨rfl, b2⟩
  have R2 := Blk.go HR.out b2
  have HB2 := Lib.hid (Below.trans HB.out (Below.mono b2 HB.out.size))
  clear b2 x0 x1
  go_wp2_with (refine wpList_store_blk (by rfl) 31 _ _ (by rfl) (w.heap.size + 1) C (by rfl) (by rfl) _ Try.zeroCells31 R2 hif hzc hone ?_; intro W8 hd8 ht8)
  refine bodyPost_ret (v := .agg C) (results_blk Try.results66 _ _ (w.heap.size + 1) _ _ _ (by rfl) hd8 Try.underlying31 (by rfl) hif) rfl ⟨rfl, ?_⟩
  exact HB2.out.trans (ht8.below HB2.out.size (fun k hk => by omega))

set_option maxRecDepth 100000 in
set_option maxHeartbeats 8000000 in
theorem rfirst_any (w : World) (sd so : Nat) (hs : sd < 4294967296) (ho : so < 4294967296) (a b : Option Addr) (ca cb : Nat) (ls os : List (Nat × Nat)) (hra : InRow w a ls) (hrb : InRow w b os) (hl : ls.length ≤ 20000) (hm : os.length ≤ 20000) (hla : ls.length ≤ ca) (hlb : os.length ≤ cb) (hca : ca ≤ 9223372036854775807) (hcb : cb ≤ 9223372036854775807) (hna : a = none → ca = 0) (hnb : b = none → cb = 0) :
    Calls Try.prog 24 #[.agg #[.int .u32 (sd : Int), .slice a ls.length ca], .agg #[.int .u32 (so : Int), .slice b os.length cb]] w fun e w' => e = .returned (.int .i64 (firstV sd ls so os)) ∧ Below w.heap.size w w' := by
  obtain ⟨l, hll⟩ : ∃ l, ls.length = l := ⟨_, rfl⟩
  obtain ⟨m, hmm⟩ : ∃ m, os.length = m := ⟨_, rfl⟩
  rw [hll, hmm]
  obtain ⟨ta, hta⟩ : ∃ t, t = w.heap.size := ⟨_, rfl⟩
  obtain ⟨tb, htb⟩ : ∃ t, t = w.heap.size + 1 := ⟨_, rfl⟩
  obtain ⟨W1, hW1⟩ : ∃ W1, W1 = (w.alloc (.cells #[.int .u32 (sd : Int), .slice a l ca] 53)).alloc (.cells #[.int .u32 (so : Int), .slice b m cb] 53) := ⟨_, rfl⟩
  have hT : TwoT w W1 ta tb 53 sd a l ca so b m cb := by rw [hW1, hta, htb]; exact TwoT.new ..
  have HT := Lib.hid hT
  have pA := Lib.hid (show ∀ W (fr : Int), Bw W1 W → Calls Try.prog 66 #[.agg #[.int .u32 (sd : Int), .slice a l ca], .int .i64 fr] W fun e w' => e = .returned (stV (stAt sd ls fr)) ∧ Below W.heap.size W w' from fun W fr h => by
    have := state36_any W sd hs a ca ls fr (inRow_pre (inRow_pre hra hT.below) h) hl hla hca hna
    rw [hll] at this
    exact this)
  have pB := Lib.hid (show ∀ W (fr : Int), Bw W1 W → Calls Try.prog 66 #[.agg #[.int .u32 (so : Int), .slice b m cb], .int .i64 fr] W fun e w' => e = .returned (stV (stAt so os fr)) ∧ Below W.heap.size W w' from fun W fr h => by
    have := state36_any W so ho b cb os fr (inRow_pre (inRow_pre hrb hT.below) h) hm hlb hcb hnb
    rw [hmm] at this
    exact this)
  obtain ⟨k, hk⟩ : ∃ k, k = min l m := ⟨_, rfl⟩
  have pQ := Lib.hid (show ∀ W, Calls Try.prog 67 #[.agg #[.int .u32 (sd : Int), .slice a l ca], .agg #[.int .u32 (so : Int), .slice b m cb]] W fun e w' => e = .returned (.int .i64 (k : Int)) ∧ Below W.heap.size W w' from fun W => by
    have := both_any W sd so a b l m ca cb
    rw [← hk] at this
    exact this)
  obtain ⟨R, hRV⟩ : ∃ R, R = firstV sd ls so os := ⟨_, rfl⟩
  have HKL := Lib.hid (show k ≤ l ∧ k ≤ m ∧ k ≤ 20000 by omega)
  have HLL := Lib.hid hll
  have HMM := Lib.hid hmm
  have HR0 := Lib.hid (show R = fstF (neS sd ls so os) (k + 1 - 0) 0 by rw [hRV, firstV, hll, hmm, ← hk]; rfl)
  have HRV := Lib.hid hRV
  clear hT hll hmm hk hRV hra hrb
  go_enter Try.func24, Try.ntmps24
  go_upto_region 1 with fail
  rw [← hW1, ← htb, ← hta]
  clear hW1 hta htb
  go_wp2_with fail
  go_loopw [5] (fun nv wr => ∃ n : Nat, n ≤ k + 1 ∧ nv = .int .i64 (n : Int) ∧ Bw W1 wr ∧ R = fstF (neS sd ls so os) (k + 1 - n) n) (fun nv _ => k + 1 - (intOf nv).toNat)
  case atStart => exact ⟨0, by omega, rfl, Bw.rf _, HR0.out⟩
  case round =>
    obtain ⟨n, hn, rfl, hb, hR⟩ := hrel
    have x0 := (HT.out.x.below hb HT.out.x.lt).cell 0
    have x1 := (HT.out.x.below hb HT.out.x.lt).cell 1
    have y0 := (HT.out.y.below hb HT.out.y.lt).cell 0
    have y1 := (HT.out.y.below hb HT.out.y.lt).cell 1
    simp at x0 x1 y0 y1
    have HB := Lib.hid hb
    have HRR := Lib.hid hR
    clear hb hR
    go_wp2_with fail
    refine (pQ.out _).mono ?_
    rintro e w3 ⟨rfl, b3⟩
    have HB3 := Lib.hid (Bw.go HB.out b3)
    clear b3 x0 x1 y0 y1
    by_cases hnk : n ≤ k
    · have hnk' : (n : Int) ≤ (k : Int) := by omega
      have x0 := (HT.out.x.below HB3.out HT.out.x.lt).cell 0
      have x1 := (HT.out.x.below HB3.out HT.out.x.lt).cell 1
      have y0 := (HT.out.y.below HB3.out HT.out.y.lt).cell 0
      have y1 := (HT.out.y.below HB3.out HT.out.y.lt).cell 1
      simp at x0 x1 y0 y1
      obtain ⟨C, LC⟩ := let_of (stK sd ls n)
      obtain ⟨D, LD⟩ := let_of (stK so os n)
      have hkl := HKL.out
      have hEq := eqS_run sd so hs ho ls os (by omega : n ≤ 20000) LC LD
      have hg := guard33
      have cA := regrown w3 (v := .agg C) (fun W h => by
        have := pA.out W (n : Int) (Bw.go HB3.out h)
        rw [show stAt sd ls (n : Int) = stK sd ls n by rw [stAt, stK, nOf_at (by rw [HLL.out]; omega)]] at this
        unfold stV at this
        rw [← LC.eq] at this
        exact this)
      have cB := regrown w3 (v := .agg D) (fun W h => by
        have := pB.out W (n : Int) (Bw.go HB3.out h)
        rw [show stAt so os (n : Int) = stK so os n by rw [stAt, stK, nOf_at (by rw [HMM.out]; omega)]] at this
        unfold stV at this
        rw [← LD.eq] at this
        exact this)
      have qa := cell_regrown x0
      have qb := cell_regrown x1
      have qc := cell_regrown y0
      have qd := cell_regrown y1
      have hRn := HRR.out
      rw [show k + 1 - n = (k - n) + 1 by omega] at hRn
      clear LC LD hkl
      go_upto_region 4 with fail
      clear x0 x1 y0 y1
      cases hq : eqS sd ls so os n
      · rw [hq] at hEq
        have HRF := Lib.hid (hRn.trans (fstF_yes (by rw [neS, hq]; rfl)))
        clear hRn hq
        refine wp_region_quiet_below (by kernel_rfl) (by kernel_rfl) ?_
        iterate 2 (quiet_step (fail))
        quiet_step (exact cA _ _)
        iterate 2 (quiet_step (fail))
        quiet_step (exact cB _ _)
        quiet_step (fail)
        refine wpQuiet_nil ?_
        intro W6 hw'
        have HB6 := Lib.hid (show Bw W1 W6 by
          obtain ⟨⟨dq, oq⟩, rfl⟩ := hw'
          exact Bw.go HB3.out (below_regrown w3 dq oq))
        clear hw' qa qb qc qd cA cB hEq hg
        go_wp2_with fail
        go_ret
        exact ⟨by rw [← HRV.out, HRF.out]; rfl, Below.trans HT.out.below (Below.mono HB6.out HT.out.below.size)⟩
      · rw [hq] at hEq
        have HRF := Lib.hid (hRn.trans (fstF_no (by rw [neS, hq]; rfl)))
        clear hRn hq
        refine wp_region_quiet_below (by kernel_rfl) (by kernel_rfl) ?_
        iterate 2 (quiet_step (fail))
        quiet_step (exact cA _ _)
        iterate 2 (quiet_step (fail))
        quiet_step (exact cB _ _)
        quiet_step (fail)
        refine wpQuiet_nil ?_
        intro W6 hw'
        have HB6 := Lib.hid (show Bw W1 W6 by
          obtain ⟨⟨dq, oq⟩, rfl⟩ := hw'
          exact Bw.go HB3.out (below_regrown w3 dq oq))
        clear hw' qa qb qc qd cA cB hEq hg
        have hn3 : n ≤ 20000 := by have := HKL.out; omega
        go_wp2_with fail
        go_roundw
        case rel => exact ⟨n + 1, by omega, by first | rfl | go_num, HB6.out, by rw [show k + 1 - (n + 1) = k - n by omega]; exact HRF.out⟩
        case measure => simp [intOf]; omega
    · have hnk' : ¬ (n : Int) ≤ (k : Int) := by omega
      have HRE := Lib.hid (show R = -1 by rw [HRR.out, show k + 1 - n = 0 by omega]; rfl)
      clear hnk
      go_wp2_with fail
      go_ret
      exact ⟨by rw [← HRV.out, HRE.out]; rfl, Below.trans HT.out.below (Below.mono HB3.out HT.out.below.size)⟩

set_option maxRecDepth 100000 in
set_option maxHeartbeats 8000000 in
theorem rmeet_any (w : World) (sd so : Nat) (hs : sd < 4294967296) (ho : so < 4294967296) (a b : Option Addr) (ca cb : Nat) (ls os : List (Nat × Nat)) (fr : Int) (hra : InRow w a ls) (hrb : InRow w b os) (hl : ls.length ≤ 20000) (hm : os.length ≤ 20000) (hla : ls.length ≤ ca) (hlb : os.length ≤ cb) (hca : ca ≤ 9223372036854775807) (hcb : cb ≤ 9223372036854775807) (hna : a = none → ca = 0) (hnb : b = none → cb = 0) (hf0 : -9223372036854775808 ≤ fr) (hf1 : fr ≤ 9223372036854775807) :
    Calls Try.prog 28 #[.agg #[.int .u32 (sd : Int), .slice a ls.length ca], .agg #[.int .u32 (so : Int), .slice b os.length cb], .int .i64 fr] w fun e w' => e = .returned (.int .i64 (meetV sd ls so os fr)) ∧ Below w.heap.size w w' := by
  obtain ⟨l, hll⟩ : ∃ l, ls.length = l := ⟨_, rfl⟩
  obtain ⟨m, hmm⟩ : ∃ m, os.length = m := ⟨_, rfl⟩
  rw [hll, hmm]
  obtain ⟨ta, hta⟩ : ∃ t, t = w.heap.size := ⟨_, rfl⟩
  obtain ⟨tb, htb⟩ : ∃ t, t = w.heap.size + 1 := ⟨_, rfl⟩
  obtain ⟨W1, hW1⟩ : ∃ W1, W1 = (w.alloc (.cells #[.int .u32 (sd : Int), .slice a l ca] 53)).alloc (.cells #[.int .u32 (so : Int), .slice b m cb] 53) := ⟨_, rfl⟩
  have hT : TwoT w W1 ta tb 53 sd a l ca so b m cb := by rw [hW1, hta, htb]; exact TwoT.new ..
  have HT := Lib.hid hT
  have pA := Lib.hid (show ∀ W (fr : Int), Bw W1 W → Calls Try.prog 66 #[.agg #[.int .u32 (sd : Int), .slice a l ca], .int .i64 fr] W fun e w' => e = .returned (stV (stAt sd ls fr)) ∧ Below W.heap.size W w' from fun W fr h => by
    have := state36_any W sd hs a ca ls fr (inRow_pre (inRow_pre hra hT.below) h) hl hla hca hna
    rw [hll] at this
    exact this)
  have pB := Lib.hid (show ∀ W (fr : Int), Bw W1 W → Calls Try.prog 66 #[.agg #[.int .u32 (so : Int), .slice b m cb], .int .i64 fr] W fun e w' => e = .returned (stV (stAt so os fr)) ∧ Below W.heap.size W w' from fun W fr h => by
    have := state36_any W so ho b cb os fr (inRow_pre (inRow_pre hrb hT.below) h) hm hlb hcb hnb
    rw [hmm] at this
    exact this)
  obtain ⟨k, hk⟩ : ∃ k, k = min l m := ⟨_, rfl⟩
  have pQ := Lib.hid (show ∀ W, Calls Try.prog 67 #[.agg #[.int .u32 (sd : Int), .slice a l ca], .agg #[.int .u32 (so : Int), .slice b m cb]] W fun e w' => e = .returned (.int .i64 (k : Int)) ∧ Below W.heap.size W w' from fun W => by
    have := both_any W sd so a b l m ca cb
    rw [← hk] at this
    exact this)
  obtain ⟨R, hRV⟩ : ∃ R, R = meetV sd ls so os fr := ⟨_, rfl⟩
  have HKL := Lib.hid (show k ≤ l ∧ k ≤ m ∧ k ≤ 20000 by omega)
  have HLL := Lib.hid hll
  have HMM := Lib.hid hmm
  have hRV0 : fr < 0 → R = -1 := fun h => by rw [hRV, meetV, if_pos h]
  have hRV1 : ¬ fr < 0 → R = fstF (eqS sd ls so os) (k + 1 - fr.toNat) fr.toNat := fun h => by rw [hRV, meetV, if_neg h, hll, hmm, ← hk]
  have HRV0 := Lib.hid hRV0
  have HRV1 := Lib.hid hRV1
  have HRV := Lib.hid hRV
  clear hT hll hmm hk hRV hra hrb hRV0 hRV1
  go_enter Try.func28, Try.ntmps28
  go_upto_region 1 with fail
  rw [← hW1, ← htb, ← hta]
  clear hW1 hta htb
  by_cases hfr : fr < 0
  · have hRE := HRV0.out hfr
    have HRE := Lib.hid hRE
    clear hRE
    go_wp2_with fail
    go_ret
    exact ⟨by rw [← HRV.out, HRE.out]; rfl, HT.out.below⟩
  have hR0 := HRV1.out hfr
  obtain ⟨q, rfl⟩ : ∃ q : Nat, fr = (q : Int) := ⟨fr.toNat, by omega⟩
  rw [show ((q : Int)).toNat = q from rfl] at hR0
  have HR0 := Lib.hid hR0
  clear hR0
  go_wp2_with fail
  go_loopw [7] (fun nv wr => ∃ n : Nat, nv = .int .i64 (n : Int) ∧ Bw W1 wr ∧ R = fstF (eqS sd ls so os) (k + 1 - n) n) (fun nv _ => k + 1 - (intOf nv).toNat)
  case atStart => exact ⟨q, rfl, Bw.rf _, HR0.out⟩
  case round =>
    obtain ⟨n, rfl, hb, hR⟩ := hrel
    have x0 := (HT.out.x.below hb HT.out.x.lt).cell 0
    have x1 := (HT.out.x.below hb HT.out.x.lt).cell 1
    have y0 := (HT.out.y.below hb HT.out.y.lt).cell 0
    have y1 := (HT.out.y.below hb HT.out.y.lt).cell 1
    simp at x0 x1 y0 y1
    have HB := Lib.hid hb
    have HRR := Lib.hid hR
    clear hb hR
    go_wp2_with fail
    refine (pQ.out _).mono ?_
    rintro e w3 ⟨rfl, b3⟩
    have HB3 := Lib.hid (Bw.go HB.out b3)
    clear b3 x0 x1 y0 y1
    by_cases hnk : n ≤ k
    · have hnk' : (n : Int) ≤ (k : Int) := by omega
      have x0 := (HT.out.x.below HB3.out HT.out.x.lt).cell 0
      have x1 := (HT.out.x.below HB3.out HT.out.x.lt).cell 1
      have y0 := (HT.out.y.below HB3.out HT.out.y.lt).cell 0
      have y1 := (HT.out.y.below HB3.out HT.out.y.lt).cell 1
      simp at x0 x1 y0 y1
      obtain ⟨C, LC⟩ := let_of (stK sd ls n)
      obtain ⟨D, LD⟩ := let_of (stK so os n)
      have hkl := HKL.out
      have hEq := eqS_run sd so hs ho ls os (by omega : n ≤ 20000) LC LD
      have hg := guard33
      have cA := regrown w3 (v := .agg C) (fun W h => by
        have := pA.out W (n : Int) (Bw.go HB3.out h)
        rw [show stAt sd ls (n : Int) = stK sd ls n by rw [stAt, stK, nOf_at (by rw [HLL.out]; omega)]] at this
        unfold stV at this
        rw [← LC.eq] at this
        exact this)
      have cB := regrown w3 (v := .agg D) (fun W h => by
        have := pB.out W (n : Int) (Bw.go HB3.out h)
        rw [show stAt so os (n : Int) = stK so os n by rw [stAt, stK, nOf_at (by rw [HMM.out]; omega)]] at this
        unfold stV at this
        rw [← LD.eq] at this
        exact this)
      have qa := cell_regrown x0
      have qb := cell_regrown x1
      have qc := cell_regrown y0
      have qd := cell_regrown y1
      have hRn := HRR.out
      rw [show k + 1 - n = (k - n) + 1 by omega] at hRn
      clear LC LD hkl
      go_upto_region 6 with fail
      clear x0 x1 y0 y1
      cases hq : eqS sd ls so os n
      · rw [hq] at hEq
        have HRF := Lib.hid (hRn.trans (fstF_no hq))
        clear hRn hq
        refine wp_region_quiet_below (by kernel_rfl) (by kernel_rfl) ?_
        iterate 2 (quiet_step (fail))
        quiet_step (exact cA _ _)
        iterate 2 (quiet_step (fail))
        quiet_step (exact cB _ _)
        quiet_step (fail)
        refine wpQuiet_nil ?_
        intro W6 hw'
        have HB6 := Lib.hid (show Bw W1 W6 by
          obtain ⟨⟨dq, oq⟩, rfl⟩ := hw'
          exact Bw.go HB3.out (below_regrown w3 dq oq))
        clear hw' qa qb qc qd cA cB hEq hg
        have hn3 : n ≤ 20000 := by have := HKL.out; omega
        go_wp2_with fail
        go_roundw
        case rel => exact ⟨n + 1, by first | rfl | go_num, HB6.out, by rw [show k + 1 - (n + 1) = k - n by omega]; exact HRF.out⟩
        case measure => simp [intOf]; omega
      · rw [hq] at hEq
        have HRF := Lib.hid (hRn.trans (fstF_yes hq))
        clear hRn hq
        refine wp_region_quiet_below (by kernel_rfl) (by kernel_rfl) ?_
        iterate 2 (quiet_step (fail))
        quiet_step (exact cA _ _)
        iterate 2 (quiet_step (fail))
        quiet_step (exact cB _ _)
        quiet_step (fail)
        refine wpQuiet_nil ?_
        intro W6 hw'
        have HB6 := Lib.hid (show Bw W1 W6 by
          obtain ⟨⟨dq, oq⟩, rfl⟩ := hw'
          exact Bw.go HB3.out (below_regrown w3 dq oq))
        clear hw' qa qb qc qd cA cB hEq hg
        go_wp2_with fail
        go_ret
        exact ⟨by rw [← HRV.out, HRF.out]; rfl, Below.trans HT.out.below (Below.mono HB6.out HT.out.below.size)⟩
    · have hnk' : ¬ (n : Int) ≤ (k : Int) := by omega
      have HRE := Lib.hid (show R = -1 by rw [HRR.out, show k + 1 - n = 0 by omega]; rfl)
      clear hnk
      go_wp2_with fail
      go_ret
      exact ⟨by rw [← HRV.out, HRE.out]; rfl, Below.trans HT.out.below (Below.mono HB3.out HT.out.below.size)⟩

set_option maxRecDepth 100000 in
set_option maxHeartbeats 8000000 in
theorem rinputs_any (w : World) (sd so : Nat) (a b : Option Addr) (ca cb : Nat) (ls os : List (Nat × Nat)) (hra : InRow w a ls) (hrb : InRow w b os) (hl : ls.length ≤ 20000) (hm : os.length ≤ 20000) :
    Calls Try.prog 26 #[.agg #[.int .u32 (sd : Int), .slice a ls.length ca], .agg #[.int .u32 (so : Int), .slice b os.length cb]] w fun e w' => e = .returned (.int .i64 (inputsV ls os)) ∧ Below w.heap.size w w' := by
  obtain ⟨l, hll⟩ : ∃ l, ls.length = l := ⟨_, rfl⟩
  obtain ⟨m, hmm⟩ : ∃ m, os.length = m := ⟨_, rfl⟩
  rw [hll, hmm]
  obtain ⟨ta, hta⟩ : ∃ t, t = w.heap.size := ⟨_, rfl⟩
  obtain ⟨tb, htb⟩ : ∃ t, t = w.heap.size + 1 := ⟨_, rfl⟩
  obtain ⟨W1, hW1⟩ : ∃ W1, W1 = (w.alloc (.cells #[.int .u32 (sd : Int), .slice a l ca] 53)).alloc (.cells #[.int .u32 (so : Int), .slice b m cb] 53) := ⟨_, rfl⟩
  have hT : TwoT w W1 ta tb 53 sd a l ca so b m cb := by rw [hW1, hta, htb]; exact TwoT.new ..
  have HT := Lib.hid hT
  have HRA := Lib.hid (inRow_pre hra hT.below)
  have HRB := Lib.hid (inRow_pre hrb hT.below)
  obtain ⟨k, hk⟩ : ∃ k, k = min l m := ⟨_, rfl⟩
  have pQ := Lib.hid (show ∀ W, Calls Try.prog 67 #[.agg #[.int .u32 (sd : Int), .slice a l ca], .agg #[.int .u32 (so : Int), .slice b m cb]] W fun e w' => e = .returned (.int .i64 (k : Int)) ∧ Below W.heap.size W w' from fun W => by
    have := both_any W sd so a b l m ca cb
    rw [← hk] at this
    exact this)
  obtain ⟨R, hRV⟩ : ∃ R, R = inputsV ls os := ⟨_, rfl⟩
  have HKL := Lib.hid (show k ≤ l ∧ k ≤ m ∧ k ≤ 20000 by omega)
  have HLL := Lib.hid hll
  have HMM := Lib.hid hmm
  have HR0 := Lib.hid (show R = fstF (inNe ls os) (k - 0) 0 by rw [hRV, inputsV, hll, hmm, ← hk]; rfl)
  have HRV := Lib.hid hRV
  clear hT hll hmm hk hRV hra hrb
  go_enter Try.func26, Try.ntmps26
  go_upto_region 1 with fail
  rw [← hW1, ← htb, ← hta]
  clear hW1 hta htb
  go_wp2_with fail
  go_loopw [5] (fun nv wr => ∃ n : Nat, n ≤ k ∧ nv = .int .i64 (n : Int) ∧ Bw W1 wr ∧ R = fstF (inNe ls os) (k - n) n) (fun nv _ => k + 1 - (intOf nv).toNat)
  case atStart => exact ⟨0, by omega, rfl, Bw.rf _, HR0.out⟩
  case round =>
    obtain ⟨n, hn, rfl, hb, hR⟩ := hrel
    have x0 := (HT.out.x.below hb HT.out.x.lt).cell 0
    have x1 := (HT.out.x.below hb HT.out.x.lt).cell 1
    have y0 := (HT.out.y.below hb HT.out.y.lt).cell 0
    have y1 := (HT.out.y.below hb HT.out.y.lt).cell 1
    simp at x0 x1 y0 y1
    have HB := Lib.hid hb
    have HRR := Lib.hid hR
    clear hb hR
    go_wp2_with fail
    refine (pQ.out _).mono ?_
    rintro e w3 ⟨rfl, b3⟩
    have HB3 := Lib.hid (Bw.go HB.out b3)
    clear b3 x0 x1 y0 y1
    by_cases hnk : n < k
    · have hnk' : (n : Int) < (k : Int) := by omega
      have hkl := HKL.out
      have x1 := (HT.out.x.below HB3.out HT.out.x.lt).cell 1
      have y1 := (HT.out.y.below HB3.out HT.out.y.lt).cell 1
      simp at x1 y1
      have ra := inRow_pre HRA.out HB3.out
      have rb := inRow_pre HRB.out HB3.out
      obtain ⟨ga, oa, rfl, hga, cca⟩ := ra.2 (by rw [HLL.out]; omega)
      obtain ⟨gb, ob, rfl, hgb, ccb⟩ := rb.2 (by rw [HMM.out]; omega)
      have r1 := cca n (by rw [HLL.out]; omega)
      have r2 := ccb n (by rw [HMM.out]; omega)
      obtain ⟨x, hx⟩ : ∃ x, ls[n]? = some x := ⟨ls[n]'(by rw [HLL.out]; omega), List.getElem?_eq_getElem (by rw [HLL.out]; omega)⟩
      obtain ⟨y, hy⟩ : ∃ y, os[n]? = some y := ⟨os[n]'(by rw [HMM.out]; omega), List.getElem?_eq_getElem (by rw [HMM.out]; omega)⟩
      obtain ⟨d0, d1⟩ := I2.inA_get hx
      obtain ⟨g0, g1⟩ := I2.inA_get hy
      rw [d0, d1] at r1
      rw [g0, g1] at r2
      have hEq0 := fun W => in_eql W _ _ (ra.1 _ (List.mem_of_getElem? hx)) (rb.1 _ (List.mem_of_getElem? hy))
      have hne : inNe ls os n = !decide (x = y) := by rw [inNe, hx, hy]; simp
      obtain ⟨xx0, xx1⟩ := x
      obtain ⟨yy0, yy1⟩ := y
      unfold inC at hEq0
      have c0 := r1.1
      have c1 := r1.2
      have e0 := r2.1
      have e1 := r2.2
      have n0 : (0 : Int) ≤ (n : Int) := by omega
      have n1 : (n : Int) < (l : Int) := by omega
      have n2 : (n : Int) < (m : Int) := by omega
      have hRn := HRR.out
      rw [show k - n = (k - (n + 1)) + 1 by omega] at hRn
      clear hx hy d0 d1 g0 g1 r1 r2 cca ccb ra rb hkl
      go_upto_region 4 with fail
      cases hq : decide ((xx0, xx1) = (yy0, yy1))
      · rw [hq] at hEq0 hne
        have HRF := Lib.hid (hRn.trans (fstF_yes hne))
        clear hRn hne hq
        go_quiet (fail)
        clear c0 c1 e0 e1 hEq0
        go_wp2_with fail
        go_ret
        exact ⟨by rw [← HRV.out, HRF.out]; rfl, Below.trans HT.out.below (Below.mono (below_drewN HB3.out _) HT.out.below.size)⟩
      · rw [hq] at hEq0 hne
        have HRF := Lib.hid (hRn.trans (fstF_no hne))
        clear hRn hne hq
        go_quiet (fail)
        clear c0 c1 e0 e1 hEq0
        have hn3 : n ≤ 20000 := by have := HKL.out; omega
        go_wp2_with fail
        go_roundw
        case rel => exact ⟨n + 1, by omega, by first | rfl | go_num, below_drewN HB3.out _, HRF.out⟩
        case measure => simp [intOf]; omega
    · have hnk' : ¬ (n : Int) < (k : Int) := by omega
      have HRE := Lib.hid (show R = -1 by rw [HRR.out, show k - n = 0 by omega]; rfl)
      clear hnk
      go_wp2_with fail
      go_ret
      exact ⟨by rw [← HRV.out, HRE.out]; rfl, Below.trans HT.out.below (Below.mono HB3.out HT.out.below.size)⟩
end Go.Proofs.Ytlhoffhagfhbcaa.Dif
namespace Go.Proofs.Ytlhoffhagfhbcaa.Dif
open Go.RowKit
set_option linter.all false

/-- A builder in block b that holds a text, its bytes in a block from B on. -/
def Bd (B b : Nat) (S : ByteArray) (w : World) : Prop := Lib.IsBuilderF 108 5 B b (Lib.strCells S) w
theorem strCells_add (S s : ByteArray) : Lib.strCells (S ++ s) = Lib.strCells S ++ Lib.strCells s := by
  simp [Lib.strCells, ByteArray.data_append]
theorem keepX_of_others {b : Nat} {A C : World} (h : Lib.OthersKept 5 (some b) A C) (hs : A.heap.size ≤ C.heap.size) : KeepX (· = b) A C :=
  ⟨hs, fun k hk hx hn => by
    have e : A.heap[k]? = some A.heap[k] := Array.getElem?_eq_getElem hk
    rw [e]
    refine h k _ e (fun h => hx (Option.some.inj h)) (fun c fz h => ?_)
    exact hn c fz (by rw [e, h])⟩
theorem szB : (Try.prog.info? 108).map (·.size) = some 2 := by kernel_rfl
theorem infoB8 : (Try.prog.info? 5).map (fun i => (i.zero, i.size, i.bytes)) = some (some (.int .u8 0), 1, 1) := by kernel_rfl
theorem cells8 : Try.prog.cellsOf 5 = 1 := by kernel_rfl

set_option maxRecDepth 100000 in
set_option maxHeartbeats 2000000 in
theorem check_fresh (b : Nat) (w : World) (h0 : w.cell? ⟨b, 0, none⟩ = some (.pointer none)) (hsh : w.shape? b = some (108, 2)) (hfz : w.frozen? ⟨b, 0, none⟩ = false) :
    Calls Try.prog 101 #[.pointer (some ⟨b, 0, none⟩)] w fun e w' => e = .returned (.tuple #[]) ∧ w' = w.setCell ⟨b, 0, none⟩ (.pointer (some ⟨b, 0, none⟩)) := by
  obtain ⟨j, hj, hjs⟩ := Option.map_eq_some_iff.1 szB
  go_enter Try.func101, Try.ntmps101
  go_wp2
  rw [Lib.run_to_unsafe w ⟨b, 0, none⟩ Try.underlying106 Try.underlying178 hj (by rw [hjs]; decide) hsh (Nat.zero_lt_succ 1)]
  simp only [Result.andThen]
  rw [Oper.upon_value]
  go_wp2
  rw [run_callFunc_extern Try.func124 (by kernel_rfl) (by kernel_rfl) (by kernel_rfl) (e := Extern.AbiNoEscape.same) (by kernel_rfl)]
  rw [Lib.run_noEscape]
  simp only [Result.andThen]
  rw [Oper.upon_value]
  go_wp2
  rw [Lib.run_from_unsafe w ⟨b, 0, none⟩ Try.underlying178 Try.underlying106 hj hsh (by kernel_rfl)]
  simp only [Result.andThen]
  rw [Oper.upon_value]
  go_wp2
  go_end0
  exact ⟨rfl, rfl⟩
set_option maxRecDepth 100000 in
set_option maxHeartbeats 2000000 in
theorem check_used (b : Nat) (w : World) (h0 : w.cell? ⟨b, 0, none⟩ = some (.pointer (some ⟨b, 0, none⟩))) :
    Calls Try.prog 101 #[.pointer (some ⟨b, 0, none⟩)] w fun e w' => e = .returned (.tuple #[]) ∧ w' = w := by
  obtain ⟨j, hj, hjs⟩ := Option.map_eq_some_iff.1 szB
  have hne := Lib.run_neq_ptr_same (P := Try.prog) w ⟨b, 0, none⟩ Try.underlying106 hj
  go_enter Try.func101, Try.ntmps101
  go_wp2
  go_end0
  exact ⟨rfl, rfl⟩
theorem check_any (B b : Nat) (bs : List Value) (w : World) (h : Lib.IsBuilderF 108 5 B b bs w) :
    Calls Try.prog 101 #[.pointer (some ⟨b, 0, none⟩)] w fun e w' => e = .returned (.tuple #[]) ∧ Lib.BuilderAtF 108 5 B b (.pointer (some ⟨b, 0, none⟩)) bs w' ∧ Below B w w' ∧ Lib.OthersKept 5 (some b) w w' := by
  rcases h with h | h
  · refine (check_fresh b w h.cell0 h.shape h.frozen0).mono ?_
    rintro e w' ⟨rfl, rfl⟩
    exact ⟨rfl, h.used _, (Below.refl B w).setCell (p := ⟨b, 0, none⟩) h.1 _, (Lib.OthersKept.refl _ _ w).setCell ⟨b, 0, none⟩ rfl _⟩
  · refine (check_used b w h.cell0).mono ?_
    rintro e w' ⟨rfl, rfl⟩
    exact ⟨rfl, h, Below.refl B _, Lib.OthersKept.refl _ _ _⟩

theorem owns_slice {w : World} {B n : Nat} {e : TypeId} {v : Value} {xs : List Value} (h : w.ownsRowF B e 1 v n xs) : ∃ ao n' cap, v = .slice ao n' cap := by
  rcases h.2 with ⟨hv, _⟩ | ⟨g, cap, cur, fz, hv, _⟩
  · exact ⟨_, _, _, hv⟩
  · exact ⟨_, _, _, hv⟩
set_option maxRecDepth 100000 in
set_option maxHeartbeats 2000000 in
theorem write_any (B b : Nat) (S s : ByteArray) (w : World) (h : Bd B b S w) (hlen : S.size + s.size ≤ 140737488355328) (hBw : B ≤ w.heap.size) :
    Calls Try.prog 62 #[.pointer (some ⟨b, 0, none⟩), .string s] w fun e w' => e = .returned (.tuple #[.int .i64 s.size, .nilIface]) ∧ Bd B b (S ++ s) w' ∧ Below B w w' ∧ KeepX (· = b) w w' := by
  obtain ⟨i0, hi, hz0, hz1, hz2⟩ := info_parts infoB8
  have hsz : (Lib.strCells S).length = S.size := Lib.strCells_length S
  unfold Bd at h ⊢
  rw [strCells_add]
  generalize Lib.strCells S = bs at *
  have p := Lib.hid (check_any B b bs w h)
  go_enter Try.func62, Try.ntmps62
  go_wp2_with fail
  refine p.out.mono ?_
  rintro e w1 ⟨rfl, ⟨hB, v, hbk, hown, hne⟩, hb1, hk1⟩
  have c1 : w1.cell? ⟨b, 1, none⟩ = some v := by rw [Lib.cell_of_heap hbk]; rfl
  have hlt : b < w1.heap.size := (Array.getElem?_eq_some_iff.1 hbk).1
  have hz1' := hb1.size
  have HK1 := Lib.hid hk1
  have HB1 := Lib.hid hb1
  have HOW := Lib.hid hown
  have HNE := Lib.hid hne
  have HBK := Lib.hid hbk
  have HSZ := Lib.hid hsz
  clear h p hb1 hk1 hown hne hbk hsz
  go_wp2_with (at_builtin; refine Lib.wpList_append_own_stringF _ rfl _ _ 61 9 rfl B 5 i0 Try.underlying61 Try.underlying9 hi hz0 hz1 hz2 _ _ _ rfl HOW.out s rfl (by have := HSZ.out; unfold maxLen; omega) (by have := HSZ.out; omega) (by omega) ?_; intro v' w2 hown' hgrow _; obtain ⟨ao, n', cap, rfl⟩ := owns_slice hown'; have hg2 : w1.grownBy w2 v.ownBlock := hgrow; have hb2 := (hg2.block b hlt (fun e => HNE.out e.symm)).trans HBK.out; have d1 : w2.cell? ⟨b, 1, none⟩ = some v := (by rw [Lib.cell_of_heap hb2]; rfl); have f1 : w2.frozen? ⟨b, 1, none⟩ = false := Lib.frozen_of_heap hb2 1; have H2 := Lib.hid hb2; have HO2 := Lib.hid hown'; have HG2 := Lib.hid hg2; clear hb2 hown' hgrow hg2)
  go_ret2
  refine ⟨rfl, ?_, ?_, keepX_of_others ((HK1.out.grown HG2.out (Lib.ownsRowF_kind HOW.out)).setCell ⟨b, 1, none⟩ rfl _) ?_⟩
  · exact .inr (Lib.BuilderAtF.put hB H2.out (bs' := bs ++ Lib.strCells s) (by simpa [Lib.strCells_length] using HO2.out) (by decide))
  · exact (HB1.out.grown HG2.out (by omega) (fun k hk => (HOW.out.lt k hk).1)).setCell (p := ⟨b, 1, none⟩) hB _
  · have := HG2.out.size
    simp [World.setCell]
    omega

set_option maxRecDepth 100000 in
set_option maxHeartbeats 2000000 in
theorem string_any (B b : Nat) (S : ByteArray) (w : World) (h : Bd B b S w) (h0 : 0 < S.size) :
    Calls Try.prog 64 #[.pointer (some ⟨b, 0, none⟩)] w fun e w' => e = .returned (.string S) ∧ Below B w w' ∧ KeepX (· = b) w w' := by
  unfold Bd at h
  rw [Lib.strCells_eq] at h
  obtain ⟨l, hl⟩ : ∃ l, l = S.data.toList := ⟨_, rfl⟩
  have hS : S = ⟨l.toArray⟩ := by rw [hl]
  have hll : l.length ≠ 0 := by rw [hl, Array.length_toList]; exact Nat.pos_iff_ne_zero.1 h0
  rw [← hl] at h
  rw [hS]
  clear hS hl h0
  obtain ⟨p, hB, v, hbk, hown, hne⟩ : ∃ p, Lib.BuilderAtF 108 5 B b p (Lib.byteCells l) w := h.elim (fun h => ⟨_, h⟩) (fun h => ⟨_, h⟩)
  rw [Lib.byteCells_length] at hown
  obtain ⟨g, cap, cur, fz, rfl, hbg, hg, hfz, hnc, hcm, hcs, htake⟩ : ∃ g cap cur fz, v = .slice (some ⟨g, 0, none⟩) l.length cap ∧ B ≤ g ∧ w.heap[g]? = some (.cells cur 5 fz) ∧ fz.2 ≤ l.length * 1 ∧ l.length ≤ cap ∧ cap ≤ maxLen ∧ cur.size = cap * 1 ∧ cur.toList.take (l.length * 1) = Lib.byteCells l := by
    rcases hown.2 with ⟨_, hz⟩ | ⟨g, cap, cur, fz, hv, r⟩
    · exact absurd hz hll
    · exact ⟨g, cap, cur, fz, hv, r⟩
  have c1 : w.drew.cell? ⟨b, 1, none⟩ = some (.slice (some ⟨g, 0, none⟩) l.length cap) := by
    have : w.drew.heap[b]? = some (.cells #[p, .slice (some ⟨g, 0, none⟩) l.length cap] 108 (0, 0)) := hbk
    rw [Lib.cell_of_heap this]; rfl
  have hSD : (Builtin.unsafeSliceData_ #[61] 158 #[.slice (some ⟨g, 0, none⟩) l.length cap]).run Try.prog w.drew = .ok (.pointer (some ⟨g, 0, none⟩)) w.drew :=
    Lib.run_unsafeSliceData_row _ _ _ _ _ _ (by omega)
  have hUS : (Builtin.unsafeString_ #[158, 3] 9 #[.pointer (some ⟨g, 0, none⟩), .int .i64 l.length]).run Try.prog w.drew = .ok (.string ⟨l.toArray⟩) (w.drew.freeze ⟨g, 0, none⟩ l.length) := by
    refine Lib.run_unsafeString_row w.drew 158 3 9 5 Try.underlying158 cells8 g cur.size (by have hg' : w.drew.heap[g]? = some (.cells cur 5 fz) := hg; simp [World.shape?, hg']) l (fun e => hll (by rw [e]; rfl)) (by omega) (by unfold maxLen at hcm; omega) ?_
    intro j x hx
    exact hown.cells (g := g) rfl j (.int .u8 x.toNat) (by simp [Lib.byteCells, hx])
  have hbf : Below B w (w.drew.freeze ⟨g, 0, none⟩ l.length) := Lib.below_freeze (Below.drew (Below.refl B w)) (p := ⟨g, 0, none⟩) hbg _
  have hkx : KeepX (· = b) w (w.drew.freeze ⟨g, 0, none⟩ l.length) := keepX_of_others (((Lib.OthersKept.refl _ _ w).drew).freeze ⟨g, 0, none⟩ _ ⟨cur, fz, hg⟩) hbf.size
  have HBF := Lib.hid hbf
  have HKX := Lib.hid hkx
  clear hbf hkx hown hg hfz hnc hcm hcs htake hbk h
  go_enter Try.func64, Try.ntmps64
  have mixed : Try.prog.follows .mixedOrders = true := by kernel_rfl
  go_upto_region 1 with fail
  go_region_o
  all_goals (go_wp2_with fail; go_ret; exact ⟨rfl, HBF.out, HKX.out⟩)
theorem bd_new (w : World) : Bd w.heap.size w.heap.size ByteArray.empty (w.alloc (.cells #[.pointer none, .slice none 0 0] 108)) := by
  refine .inl ⟨Nat.le_refl _, .slice none 0 0, heap_new w _, World.ownsRowF_nil _ _ _ _, by simp [Value.ownBlock]⟩
theorem bd_keep {B b : Nat} {S : ByteArray} {w w' : World} (h : Bd B b S w) (hb : Below w.heap.size w w') : Bd B b S w' := by
  have key : ∀ p, Lib.BuilderAtF 108 5 B b p (Lib.strCells S) w → Lib.BuilderAtF 108 5 B b p (Lib.strCells S) w' := fun p h => by
    obtain ⟨hB, v, hbk, hown, hne⟩ := h
    have hlt : b < w.heap.size := (Array.getElem?_eq_some_iff.1 hbk).1
    refine ⟨hB, v, (hb.block b hlt).trans hbk, ?_, hne⟩
    refine ⟨hown.1, ?_⟩
    rcases hown.2 with h | ⟨g, cap, cur, fz, hv, hBg, hg, r⟩
    · exact .inl h
    · exact .inr ⟨g, cap, cur, fz, hv, hBg, (hb.block g (Array.getElem?_eq_some_iff.1 hg).1).trans hg, r⟩
  exact h.imp (key _) (key _)
end Go.Proofs.Ytlhoffhagfhbcaa.Dif
namespace Go.Proofs.Ytlhoffhagfhbcaa.Dif
open Go.RowKit Go.Sort Go.Proofs.Ytlhoffhagfhbcaa.Byt Go.Proofs.Ytlhoffhagfhbcaa.Gm Go.Proofs.Ytlhoffhagfhbcaa.Num Go.Proofs.Ytlhoffhagfhbcaa.Spe
set_option linter.all false

def wFrames : ByteArray := { data := #[102, 114, 97, 109, 101, 115] }
def wInputs : ByteArray := { data := #[105, 110, 112, 117, 116, 115] }
def wPart : ByteArray := { data := #[112, 97, 114, 116] }
def wSame : ByteArray := { data := #[115, 97, 109, 101, 10] }
def dLine (f g : F) (i : Nat) : ByteArray := lineS (nmAt i) [nth (nuC f) i, nth (nuC g) i]
def foldD (f g : F) (S : ByteArray) (D : List Nat) : ByteArray := D.foldl (fun T i => T ++ dLine f g i) S
theorem foldD_snoc (f g : F) (S : ByteArray) (D : List Nat) (i : Nat) : foldD f g S (D ++ [i]) = foldD f g S D ++ dLine f g i := by simp [foldD]
/-- The lines of what is not the same, below n. -/
def tellK (f g : F) (S : ByteArray) (n : Nat) : ByteArray := foldD f g S (dix f g n)
theorem tellK_yes {f g : F} (S : ByteArray) {i : Nat} (h : nth (nuC f) i ≠ nth (nuC g) i) : tellK f g S (i + 1) = tellK f g S i ++ dLine f g i := by rw [tellK, dix_yes h, foldD_snoc]; rfl
theorem tellK_no {f g : F} (S : ByteArray) {i : Nat} (h : nth (nuC f) i = nth (nuC g) i) : tellK f g S (i + 1) = tellK f g S i := by rw [tellK, dix_no h]; rfl
/-- The first k of these lines. -/
def tellR (f g : F) (S : ByteArray) (k : Nat) : ByteArray := foldD f g S ((dix f g 66).take k)
theorem tellR_zero (f g : F) (S : ByteArray) : tellR f g S 0 = S := rfl
theorem tellR_step (f g : F) (S : ByteArray) {k : Nat} (h : k < dixN f g) : tellR f g S (k + 1) = tellR f g S k ++ dLine f g (dixA f g k) := by
  have e : (dix f g 66).take (k + 1) = (dix f g 66).take k ++ [dixA f g k] := by
    rw [List.take_succ, show (dix f g 66)[k]? = some (dixA f g k) from by
      have : k < (dix f g 66).length := h
      simp [dixA, List.getD, this]]
    rfl
  rw [tellR, e, foldD_snoc]; rfl
theorem tellR_all (f g : F) (S : ByteArray) : tellR f g S (dixN f g) = tellK f g S 66 := by
  rw [tellR, tellK, dixN, List.take_length]
def tellA (ls os : List (Nat × Nat)) : ByteArray :=
  let S1 := lineS wFrames [(ls.length : Int), (os.length : Int)]
  let q := inputsV ls os
  if q < 0 then S1 else S1 ++ lineS wInputs [q, (inA ls q.toNat 0 : Int), (inA ls q.toNat 1 : Int), (inA os q.toNat 0 : Int), (inA os q.toNat 1 : Int)]
def tellV (sd : Nat) (ls : List (Nat × Nat)) (so : Nat) (os : List (Nat × Nat)) : ByteArray :=
  let n := firstV sd ls so os
  if n < 0 then tellA ls os ++ wSame else tellK (stK sd ls n.toNat) (stK so os n.toNat) (tellA ls os ++ lineS wPart [n]) 66

theorem fstF_form (p : Nat → Bool) : ∀ (k n : Nat), fstF p k n = -1 ∨ ∃ i : Nat, fstF p k n = (i : Int) ∧ n ≤ i ∧ i < n + k ∧ p i = true
  | 0, n => .inl rfl
  | k + 1, n => by
    by_cases h : p n = true
    · exact .inr ⟨n, fstF_yes h, Nat.le_refl _, by omega, h⟩
    · rw [fstF_no (by simpa using h)]
      rcases fstF_form p k (n + 1) with e | ⟨i, e, h1, h2, h3⟩
      · exact .inl e
      · exact .inr ⟨i, e, by omega, by omega, h3⟩
theorem inputsV_form (ls os : List (Nat × Nat)) : inputsV ls os = -1 ∨ ∃ i : Nat, inputsV ls os = (i : Int) ∧ i < ls.length ∧ i < os.length := by
  rcases fstF_form (inNe ls os) (min ls.length os.length) 0 with e | ⟨i, e, h1, h2, h3⟩
  · exact .inl e
  · exact .inr ⟨i, e, by omega, by omega⟩
theorem firstV_form (sd : Nat) (ls : List (Nat × Nat)) (so : Nat) (os : List (Nat × Nat)) : firstV sd ls so os = -1 ∨ ∃ i : Nat, firstV sd ls so os = (i : Int) ∧ i ≤ ls.length ∧ i ≤ os.length := by
  rcases fstF_form (neS sd ls so os) (min ls.length os.length + 1) 0 with e | ⟨i, e, h1, h2, h3⟩
  · exact .inl e
  · exact .inr ⟨i, e, by omega, by omega⟩

theorem lineS_size {s : ByteArray} {l : List Int} (h : I64s l) : (lineS s l).size ≤ s.size + 21 * l.length + 1 := by
  have := wordsS_size l s h
  rw [lineS, ByteArray.size_append, show nlS.size = 1 from rfl]
  omega
theorem bodyH_size {i : Nat} (h : i < 100) : (bodyH i).size ≤ 26 := by
  have := numS_size (n := (i : Int)) (by omega) (by omega)
  rw [bodyH, ByteArray.size_append, ByteArray.size_append, show bodyW.size = 5 from rfl, show spS.size = 1 from rfl]; omega
theorem shotH_size {i : Nat} (h : i < 100) : (shotH i).size ≤ 26 := by
  have := numS_size (n := (i : Int)) (by omega) (by omega)
  rw [shotH, ByteArray.size_append, ByteArray.size_append, show shotW.size = 5 from rfl, show spS.size = 1 from rfl]; omega
theorem bodyNm_le : ∀ s ∈ bodyNm, s.size ≤ 6 := by
  intro s hs
  simp [bodyNm] at hs
  rcases hs with rfl | rfl | rfl | rfl | rfl | rfl | rfl <;> decide
theorem shotNm_le : ∀ s ∈ shotNm, s.size ≤ 6 := by
  intro s hs
  simp [shotNm] at hs
  rcases hs with rfl | rfl | rfl | rfl | rfl | rfl <;> decide
theorem nmB_le : ∀ i, i < 100 → ∀ s ∈ nmB i, s.size ≤ 32
  | 0, _ => by
    intro s hs
    simp [nmB] at hs
    rcases hs with rfl | rfl <;> decide
  | i + 1, h => by
    intro s hs
    rw [nmB, List.mem_append, List.mem_map] at hs
    rcases hs with hs | ⟨t, ht, rfl⟩
    · exact nmB_le i (by omega) s hs
    · have h1 := bodyNm_le t ht
      have h2 := bodyH_size (i := i) (by omega)
      rw [ByteArray.size_append]; omega
theorem nmS_le : ∀ i, i < 100 → ∀ s ∈ nmS i, s.size ≤ 32
  | 0, _ => by rw [nmS]; exact nmB_le 2 (by omega)
  | i + 1, h => by
    intro s hs
    rw [nmS, List.mem_append, List.mem_map] at hs
    rcases hs with hs | ⟨t, ht, rfl⟩
    · exact nmS_le i (by omega) s hs
    · have h1 := shotNm_le t ht
      have h2 := shotH_size (i := i) (by omega)
      rw [ByteArray.size_append]; omega
theorem nmC_le : ∀ s ∈ nmC, s.size ≤ 32 := by
  intro s hs
  rw [nmC, List.mem_append] at hs
  rcases hs with hs | hs
  · exact nmS_le 8 (by omega) s hs
  · simp at hs
    rcases hs with rfl | rfl <;> decide
theorem nmAt_size (i : Nat) : (nmAt i).size ≤ 32 := by
  by_cases h : i < nmC.length
  · exact nmC_le _ (by simp [nmAt, List.getD, h])
  · rw [nmAt, List.getD, List.getElem?_eq_none (by omega)]; decide
theorem I64s.app {l m : List Int} (h : I64s l) (h' : I64s m) : I64s (l ++ m) := fun n hn => (List.mem_append.1 hn).elim (h n) (h' n)
theorem nuB_i64 {f : F} (hw : Wf f) : ∀ i, i ≤ 2 → I64s (nuB f i)
  | 0, _ => by
    intro n hn
    simp [nuB] at hn
    rcases hn with rfl | rfl
    · exact hw.i64 0 (by omega)
    · exact hw.i64 1 (by omega)
  | i + 1, h => by
    rw [nuB]
    refine (nuB_i64 hw i (by omega)).app ?_
    intro n hn
    simp [bNum] at hn
    rcases hn with rfl | rfl | rfl | rfl | rfl | rfl | rfl <;> exact hw.i64 _ (by omega)
theorem nuS_i64 {f : F} (hw : Wf f) : ∀ i, i ≤ 8 → I64s (nuS f i)
  | 0, _ => by rw [nuS]; exact nuB_i64 hw 2 (by omega)
  | i + 1, h => by
    rw [nuS]
    refine (nuS_i64 hw i (by omega)).app ?_
    intro n hn
    simp [sNum] at hn
    rcases hn with rfl | rfl | rfl | rfl | rfl | rfl
    · split <;> omega
    all_goals exact hw.i64 _ (by omega)
theorem nuC_i64 {f : F} (hw : Wf f) : I64s (nuC f) := by
  rw [nuC]
  refine (nuS_i64 hw 8 (by omega)).app ?_
  intro n hn
  simp at hn
  rcases hn with rfl | rfl <;> exact hw.i64 _ (by omega)
theorem nth_i64 {f : F} (hw : Wf f) (i : Nat) : -9223372036854775808 ≤ nth (nuC f) i ∧ nth (nuC f) i ≤ 9223372036854775807 := by
  by_cases h : i < (nuC f).length
  · exact (nuC_i64 hw).nth h
  · rw [nth, List.getD, List.getElem?_eq_none (by omega)]; simp
theorem dLine_size {f g : F} (hf : Wf f) (hg : Wf g) (i : Nat) : (dLine f g i).size ≤ 100 := by
  have h : I64s [nth (nuC f) i, nth (nuC g) i] := by
    intro n hn
    simp at hn
    rcases hn with rfl | rfl
    · exact nth_i64 hf i
    · exact nth_i64 hg i
  have h1 := lineS_size (s := nmAt i) h
  have h2 := nmAt_size i
  simp only [List.length_cons, List.length_nil] at h1
  rw [dLine]; omega
theorem foldD_size {f g : F} (hf : Wf f) (hg : Wf g) : ∀ (D : List Nat) (S : ByteArray), (foldD f g S D).size ≤ S.size + 100 * D.length
  | [], S => by simp [foldD]
  | i :: D, S => by
    have h1 := foldD_size hf hg D (S ++ dLine f g i)
    have h2 := dLine_size hf hg i
    rw [ByteArray.size_append] at h1
    simp only [List.length_cons]
    have : foldD f g S (i :: D) = foldD f g (S ++ dLine f g i) D := rfl
    rw [this]; omega
theorem dix_len (f g : F) (n : Nat) : (dix f g n).length ≤ n := by
  have := List.length_filter_le (dif f g) (List.range n)
  rw [List.length_range] at this
  exact this
theorem tellK_size {f g : F} (hf : Wf f) (hg : Wf g) (S : ByteArray) (n : Nat) : (tellK f g S n).size ≤ S.size + 100 * n := by
  have h1 := foldD_size hf hg (dix f g n) S
  have h2 := dix_len f g n
  rw [tellK]
  have : 100 * (dix f g n).length ≤ 100 * n := Nat.mul_le_mul_left _ h2
  omega
theorem tellR_size {f g : F} (hf : Wf f) (hg : Wf g) (S : ByteArray) (k : Nat) : (tellR f g S k).size ≤ S.size + 6600 := by
  have h1 := foldD_size hf hg ((dix f g 66).take k) S
  have h2 := dix_len f g 66
  have h3 : ((dix f g 66).take k).length ≤ 66 := by rw [List.length_take]; omega
  rw [tellR]
  have : 100 * ((dix f g 66).take k).length ≤ 100 * 66 := Nat.mul_le_mul_left _ h3
  omega

/-- A line whose numbers have been laid for it. -/
theorem line_new (W : World) (s : ByteArray) (l : List Int) (n : Nat) (A : Array Value) (hn : l.length = n) (hA : A = (l.map (Value.int .i64)).toArray) (hl : n ≤ 1000) (h64 : I64s l) (hs : s.size ≤ 1000000) :
    Calls Try.prog 63 #[.string s, .slice (some ⟨W.heap.size, 0, none⟩) n n] (W.alloc (.cells A 2)) fun e w' => e = .returned (.string (lineS s l)) ∧ Bw W w' := by
  have h := line_any (W.alloc (.cells A 2)) s (some ⟨W.heap.size, 0, none⟩) n l (by rw [hn]; exact row_new W l n hn A hA) (by omega) h64 hs
  rw [hn] at h
  exact h.mono (fun e w' h => ⟨h.1, Bw.go (Bw.one W _) h.2⟩)
theorem rline_new (W : World) (s : ByteArray) (l : List Int) (n : Nat) (A : Array Value) (hn : l.length = n) (hA : A = (l.map (Value.int .i64)).toArray) (hl : n ≤ 1000) (h64 : I64s l) (hs : s.size ≤ 1000000) :
    Calls Try.prog 65 #[.string s, .slice (some ⟨W.heap.size, 0, none⟩) n n] (W.alloc (.cells A 2)) fun e w' => e = .returned (.string (lineS s l)) ∧ Bw W w' := by
  have h := rline_any (W.alloc (.cells A 2)) s (some ⟨W.heap.size, 0, none⟩) n l (by rw [hn]; exact row_new W l n hn A hA) (by omega) h64 hs
  rw [hn] at h
  exact h.mono (fun e w' h => ⟨h.1, Bw.go (Bw.one W _) h.2⟩)
theorem i64_nat {n : Nat} (h : n ≤ 1000000) : -9223372036854775808 ≤ (n : Int) ∧ (n : Int) ≤ 9223372036854775807 := by omega
end Go.Proofs.Ytlhoffhagfhbcaa.Dif
