/-
  Texts joined: SpSA. No condition.
-/
import Derived.Test.YtlhoffhagfhbcaaBDiff16
import Derived.Lib.QuietBelow
namespace Go.Proofs.Ytlhoffhagfhbcaa.Spe
open Go.RowKit Go.Shelf Go.Sort Go.Proofs.Ytlhoffhagfhbcaa.Byt Go.Proofs.Ytlhoffhagfhbcaa.Gm Go.Proofs.Ytlhoffhagfhbcaa.RingE Go.Proofs.Ytlhoffhagfhbcaa.Num
set_option linter.all false
attribute [local go_sem ↓] exec33 exec_st33
attribute [local go_sem] loadR_at cellsAt_drew

def nOf (fr : Int) (len : Nat) : Nat := (clampV fr 0 len).toNat
theorem nOf_le (fr : Int) (len : Nat) : nOf fr len ≤ len := by unfold nOf clampV; omega
theorem nOf_cl (fr : Int) (len : Nat) : clampV fr 0 len = (nOf fr len : Int) := by unfold nOf clampV; omega
theorem inA_take (ls : List (Nat × Nat)) {n j : Nat} (h : j < n) : inA (ls.take n) j = inA ls j := by
  funext i
  unfold inA
  rw [List.getD_eq_getElem?_getD, List.getElem?_take, if_pos h, List.getD_eq_getElem?_getD]
theorem playF_take (f : F) (ls : List (Nat × Nat)) (n : Nat) : ∀ k, k ≤ n → playF f (ls.take n) k = playF f ls k
  | 0, _ => rfl
  | k + 1, h => by
    show stepF (playF f (ls.take n) k) (inA (ls.take n) k) = stepF (playF f ls k) (inA ls k)
    rw [playF_take f ls n k (by omega), inA_take ls (by omega)]
theorem inRow_take {w : World} {a : Option Addr} {ls : List (Nat × Nat)} (h : InRow w a ls) (n : Nat) : InRow w a (ls.take n) :=
  ⟨fun x hx => h.1 x (List.mem_of_mem_take hx), fun hp => by
    rw [List.length_take] at hp
    obtain ⟨b, off, e, h1, h2⟩ := h.2 (by omega)
    exact ⟨b, off, e, h1, fun j hj => by
      rw [List.length_take] at hj
      rw [inA_take ls (by omega)]
      exact h2 j (by omega)⟩⟩
/-- The state behind some frames of a tape. -/
def stAt (sd : Nat) (ls : List (Nat × Nat)) (fr : Int) : F := playF (newF (sd : Int)) ls (nOf fr ls.length)
theorem storeR33 {w : World} {g : Nat} {t : TypeId} {old cells : Array Value} {f : F} (hg : Blk w g t old) (LC : Let cells f) (ho : old.size = 66) :
    ∃ w', storeR Try.prog 31 (.pointer (some ⟨g, 0, none⟩)) (.agg cells) w = .ok .skip w' ∧ Blk w' g t cells ∧ Touch (fun k => k = g) w w' := by
  refine ⟨w.setRow g cells, ?_, Blk.setRow hg cells, touch_setRow w g cells⟩
  unfold storeR
  simp only [Instr.storeAt, Instr.sureAddr, Sem.run_bind, Sem.run_pure, Result.andThen_ok, run_storeVar_row w g t 31 old cells hg LC.info (by rw [ho, LC.size]) LC.one]

set_option maxRecDepth 100000 in
set_option maxHeartbeats 4000000 in
theorem tstate_any (w : World) (sd : Nat) (hs : sd < 4294967296) (a : Option Addr) (cap : Nat) (ls : List (Nat × Nat)) (fr : Int) (hr : InRow w a ls) (hl : ls.length ≤ 20000) (hcap : ls.length ≤ cap) (hc2 : cap ≤ 9223372036854775807) (hn : a = none → cap = 0) :
    Calls Try.prog 51 #[.agg #[.int .u32 (sd : Int), .slice a ls.length cap], .int .i64 fr] w fun e w' => e = .returned (stV (stAt sd ls fr)) ∧ Below w.heap.size w w' := by
  obtain ⟨l, hll⟩ : ∃ l, ls.length = l := ⟨_, rfl⟩
  obtain ⟨n, hnn⟩ : ∃ n, n = nOf fr ls.length := ⟨_, rfl⟩
  obtain ⟨C, LC⟩ := let_of (newF (sd : Int))
  obtain ⟨D, LD⟩ := let_of (stAt sd ls fr)
  have hnl : n ≤ l := by rw [hnn, ← hll]; exact nOf_le _ _
  have hI := Inv.new (sd : Int) (by omega) (by omega)
  have pN' : ∀ W, Calls Try.prog 35 #[.int .u32 (sd : Int)] W fun e w' => e = .returned (.agg C) ∧ Below W.heap.size W w' := fun W => by
    have := new_any W (sd : Int) (by omega) (by omega)
    unfold stV at this
    rw [← LC.eq] at this
    exact this
  have pP' : ∀ W, InRow W a ls → Calls Try.prog 38 #[.agg C, .slice a n cap] W fun e w' => e = .returned (.agg D) ∧ Below W.heap.size W w' := fun W h => by
    have hlen : (ls.take n).length = n := by rw [List.length_take]; omega
    have := play_any W (newF (sd : Int)) 0 0 a cap (ls.take n) (inRow_take h n) hI (by rw [hlen]; omega) (by omega) (by omega) (by omega)
    rw [hlen, playF_take _ _ _ _ (Nat.le_refl _)] at this
    unfold stV at this
    rw [← LC.eq, hnn, ← show stAt sd ls fr = playF (newF (sd : Int)) ls (nOf fr ls.length) from rfl, ← LD.eq] at this
    rw [← hnn] at this
    exact this
  have pC' : ∀ W, Calls Try.prog 99 #[.int .i64 fr, .int .i64 0, .int .i64 (l : Int)] W fun e w' => e = .returned (.int .i64 (n : Int)) ∧ W = w' := fun W => by
    have := clamp_any W fr 0 (l : Int)
    rw [← hll, nOf_cl, ← hnn] at this
    rw [← hll]
    exact this
  obtain ⟨W1, hW1⟩ : ∃ W1, W1 = (w.alloc (.cells #[.int .u32 (sd : Int), .slice a l cap] 49)).alloc (.cells Try.zeroCells31 31) := ⟨_, rfl⟩
  have hX : Blk W1 w.heap.size 49 #[.int .u32 (sd : Int), .slice a l cap] := by rw [hW1]; exact (Blk.new w _ _).alloc _
  have hR : Blk W1 (w.heap.size + 1) 31 Try.zeroCells31 := by
    rw [hW1]
    have := Blk.new (w.alloc (.cells #[.int .u32 (sd : Int), .slice a l cap] 49)) 31 Try.zeroCells31
    simpa using this
  have hB : Below w.heap.size w W1 := by rw [hW1]; exact ((Below.refl _ w).alloc (Nat.le_refl _) _).alloc (by simp) _
  have hzs : Try.zeroCells31.size = 66 := by rw [← stA_zero]; exact stA_size _
  have x0 : W1.drew.cell? ⟨w.heap.size, 0, none⟩ = some (.int .u32 (sd : Int)) := hX.cell 0
  have x1 : W1.drew.cell? ⟨w.heap.size, 1, none⟩ = some (.slice a l cap) := hX.cell 1
  have y1 : W1.cell? ⟨w.heap.size, 1, none⟩ = some (.slice a l cap) := hX.cell 1
  have pN := Lib.hid pN'
  have pP := Lib.hid pP'
  have pC := Lib.hid pC'
  have HX := Lib.hid hX
  have HRES := Lib.hid hR
  have HB := Lib.hid hB
  have HROW := Lib.hid hr
  have HLD := Lib.hid LD
  have hbd : Below W1.heap.size W1 W1.drew := (Below.refl _ W1).drew
  have hz1 := hB.size
  have i0 : (0 : Int) ≤ (n : Int) := by omega
  have i1 : (n : Int) ≤ (l : Int) := by omega
  have i2 : (n : Int) ≤ (cap : Int) := by omega
  have hDs := LD.size
  have hDone := LD.one
  have hDif := LD.info
  have HL2 := Lib.hid hll
  clear pN' pP' pC' hX hR hB hr LD LC hI hnn
  rw [hll]
  rcases a with _ | ad
  · obtain rfl : cap = 0 := hn rfl
    obtain rfl : l = 0 := by omega
    obtain rfl : n = 0 := by omega
    have pC0 : Hid (∀ W, Calls Try.prog 99 #[.int .i64 fr, .int .i64 0, .int .i64 0] W fun e w' => e = .returned (.int .i64 0) ∧ W = w') := pC
    clear i0 i1 i2
    go_enter Try.func51, Try.ntmps51
    go_upto_region 1 with fail
    rw [← hW1]
    clear hW1
    go_upto_region 2 with (first | (go_at_call 99; (with_reducible refine (pC0.out _).mono ?_); rintro e w2 ⟨rfl, rfl⟩) | fail)
    clear y1
    go_region_held3 (fun W => W.cell? ⟨w.heap.size, 0, none⟩ = some (.int .u32 (sd : Int)) ∧ W.cell? ⟨w.heap.size, 1, none⟩ = some (.slice none 0 0)) (first | exact ⟨x0, x1⟩ | exact ⟨k0, k1⟩ | exact ⟨m0, m1⟩ | exact ⟨z0, z1⟩ | fail "no keep")
      (first
        | (go_at_call 35; (with_reducible refine (pN.out _).mono ?_); rintro e wA ⟨rfl, bA⟩; have BA := hbd.trans (bA.mono hbd.size); have hxa := HX.out.below BA HX.out.lt; have k0 : wA.cell? ⟨w.heap.size, 0, none⟩ = some (.int .u32 (sd : Int)) := hxa.cell 0; have k1 : wA.cell? ⟨w.heap.size, 1, none⟩ = some (.slice none 0 0) := hxa.cell 1)
        | (go_at_call 38; (with_reducible refine (pP.out _ (inRow_pre HROW.out (HB.out.trans (BA.mono hz1)))).mono ?_); rintro e wB ⟨rfl, bB⟩; have BB := BA.trans (bB.mono BA.size); have hxb := HX.out.below BB HX.out.lt; have m0 : wB.cell? ⟨w.heap.size, 0, none⟩ = some (.int .u32 (sd : Int)) := hxb.cell 0; have m1 : wB.cell? ⟨w.heap.size, 1, none⟩ = some (.slice none 0 0) := hxb.cell 1; obtain ⟨W9, hst, hd9, ht9⟩ := storeR33 (HRES.out.below BB HRES.out.lt) HLD.out hzs; have hx9 := hxb.touch ht9 (by omega); have z0 : W9.cell? ⟨w.heap.size, 0, none⟩ = some (.int .u32 (sd : Int)) := hx9.cell 0; have z1 : W9.cell? ⟨w.heap.size, 1, none⟩ = some (.slice none 0 0) := hx9.cell 1)
        | fail "no arm")
    all_goals
      go_wp2_with fail
      refine bodyPost_ret (v := .agg D) (results_blk Try.results51 _ _ (w.heap.size + 1) _ _ _ (by rfl) hd9 Try.underlying31 (by rfl) hDif) rfl ⟨by rw [HLD.out.eq]; rfl, ?_⟩
      exact (HB.out.trans (BB.mono hz1)).trans (ht9.below (HB.out.trans (BB.mono hz1)).size (fun k hk => by omega))
  · go_enter Try.func51, Try.ntmps51
    go_upto_region 1 with fail
    rw [← hW1]
    clear hW1
    go_upto_region 2 with (first | (go_at_call 99; (with_reducible refine (pC.out _).mono ?_); rintro e w2 ⟨rfl, rfl⟩) | fail)
    clear y1
    go_region_held3 (fun W => W.cell? ⟨w.heap.size, 0, none⟩ = some (.int .u32 (sd : Int)) ∧ W.cell? ⟨w.heap.size, 1, none⟩ = some (.slice (some ad) l cap)) (first | exact ⟨x0, x1⟩ | exact ⟨k0, k1⟩ | exact ⟨m0, m1⟩ | exact ⟨z0, z1⟩ | fail "no keep")
      (first
        | (go_at_call 35; (with_reducible refine (pN.out _).mono ?_); rintro e wA ⟨rfl, bA⟩; have BA := hbd.trans (bA.mono hbd.size); have hxa := HX.out.below BA HX.out.lt; have k0 : wA.cell? ⟨w.heap.size, 0, none⟩ = some (.int .u32 (sd : Int)) := hxa.cell 0; have k1 : wA.cell? ⟨w.heap.size, 1, none⟩ = some (.slice (some ad) l cap) := hxa.cell 1)
        | (go_at_call 38; (with_reducible refine (pP.out _ (inRow_pre HROW.out (HB.out.trans (BA.mono hz1)))).mono ?_); rintro e wB ⟨rfl, bB⟩; have BB := BA.trans (bB.mono BA.size); have hxb := HX.out.below BB HX.out.lt; have m0 : wB.cell? ⟨w.heap.size, 0, none⟩ = some (.int .u32 (sd : Int)) := hxb.cell 0; have m1 : wB.cell? ⟨w.heap.size, 1, none⟩ = some (.slice (some ad) l cap) := hxb.cell 1; obtain ⟨W9, hst, hd9, ht9⟩ := storeR33 (HRES.out.below BB HRES.out.lt) HLD.out hzs; have hx9 := hxb.touch ht9 (by omega); have z0 : W9.cell? ⟨w.heap.size, 0, none⟩ = some (.int .u32 (sd : Int)) := hx9.cell 0; have z1 : W9.cell? ⟨w.heap.size, 1, none⟩ = some (.slice (some ad) l cap) := hx9.cell 1)
        | fail "no arm")
    all_goals
      go_wp2_with fail
      refine bodyPost_ret (v := .agg D) (results_blk Try.results51 _ _ (w.heap.size + 1) _ _ _ (by rfl) hd9 Try.underlying31 (by rfl) hDif) rfl ⟨by rw [HLD.out.eq]; rfl, ?_⟩
      exact (HB.out.trans (BB.mono hz1)).trans (ht9.below (HB.out.trans (BB.mono hz1)).size (fun k hk => by omega))

set_option maxRecDepth 100000 in
set_option maxHeartbeats 4000000 in
theorem rstate_any (w : World) (sd : Nat) (hs : sd < 4294967296) (a : Option Addr) (cap : Nat) (ls : List (Nat × Nat)) (fr : Int) (hr : InRow w a ls) (hl : ls.length ≤ 20000) (hcap : ls.length ≤ cap) (hc2 : cap ≤ 9223372036854775807) (hn : a = none → cap = 0) :
    Calls Try.prog 52 #[.int .u32 (sd : Int), .slice a ls.length cap, .int .i64 fr] w fun e w' => e = .returned (stV (stAt sd ls fr)) ∧ Below w.heap.size w w' := by
  obtain ⟨l, hll⟩ : ∃ l, ls.length = l := ⟨_, rfl⟩
  obtain ⟨n, hnn⟩ : ∃ n, n = nOf fr ls.length := ⟨_, rfl⟩
  obtain ⟨C, LC⟩ := let_of (newF (sd : Int))
  have hnl : n ≤ l := by rw [hnn, ← hll]; exact nOf_le _ _
  have hI := Inv.new (sd : Int) (by omega) (by omega)
  have pN' : ∀ W, Calls Try.prog 37 #[.int .u32 (sd : Int)] W fun e w' => e = .returned (.agg C) ∧ Below W.heap.size W w' := fun W => by
    have := rnew_any W (sd : Int) (by omega) (by omega)
    unfold stV at this
    rw [← LC.eq] at this
    exact this
  have pP' : ∀ W, InRow W a ls → Calls Try.prog 39 #[.agg C, .slice a n cap] W fun e w' => ∃ D, Let D (stAt sd ls fr) ∧ e = .returned (.agg D) ∧ Below W.heap.size W w' := fun W h => by
    have hlen : (ls.take n).length = n := by rw [List.length_take]; omega
    have := rplay_any W C (newF (sd : Int)) 0 0 a cap (ls.take n) LC (inRow_take h n) hI (by rw [hlen]; omega) (by omega) (by omega) (by omega)
    rw [hlen, playF_take _ _ _ _ (Nat.le_refl _)] at this
    rw [hnn, ← show stAt sd ls fr = playF (newF (sd : Int)) ls (nOf fr ls.length) from rfl, ← hnn] at this
    exact this
  obtain ⟨m, hm⟩ : ∃ m : Int, m = if fr < 0 then 0 else fr := ⟨_, rfl⟩
  have hmax : (if fr < (0 : Int) then (0 : Int) else fr) = m := hm.symm
  have hmin : (if (l : Int) < m then (l : Int) else m) = (n : Int) := by
    have : (n : Int) = clampV fr 0 l := by rw [hnn, ← nOf_cl, hll]
    rw [this, hm]
    unfold clampV
    split <;> split <;> omega
  obtain ⟨W1, hW1⟩ : ∃ W1, W1 = w.alloc (.cells Try.zeroCells31 31) := ⟨_, rfl⟩
  have hR : Blk W1 w.heap.size 31 Try.zeroCells31 := by rw [hW1]; exact Blk.new _ _ _
  have hB : Below w.heap.size w W1 := by rw [hW1]; exact (Below.refl _ w).alloc (Nat.le_refl _) _
  have hzs : Try.zeroCells31.size = 66 := by rw [← stA_zero]; exact stA_size _
  have pN := Lib.hid pN'
  have pP := Lib.hid pP'
  have HRES := Lib.hid hR
  have HB := Lib.hid hB
  have HROW := Lib.hid hr
  have hbd : Below W1.heap.size W1 W1.drew := (Below.refl _ W1).drew
  have hz1 := hB.size
  have i0 : (0 : Int) ≤ (n : Int) := by omega
  have i1 : (n : Int) ≤ (l : Int) := by omega
  have i2 : (n : Int) ≤ (cap : Int) := by omega
  have HL2 := Lib.hid hll
  clear pN' pP' hR hB hr LC hI hnn hm
  rw [hll]
  rcases a with _ | ad
  · obtain rfl : cap = 0 := hn rfl
    obtain rfl : l = 0 := by omega
    obtain rfl : n = 0 := by omega
    have hmin0 : (if (0 : Int) < m then (0 : Int) else m) = 0 := hmin
    clear i0 i1 i2 hmin
    go_enter Try.func52, Try.ntmps52
    go_upto_region 1 with fail
    rw [← hW1]
    clear hW1
    have s0 : w.heap.size ≤ W1.drew.heap.size := hz1
    go_region_held3 (fun W => w.heap.size ≤ W.heap.size) (first | exact s0 | exact sA | exact sB | exact s9 | fail "no keep")
      (first
        | (go_at_call 37; (with_reducible refine (pN.out _).mono ?_); rintro e wA ⟨rfl, bA⟩; have BA := hbd.trans (bA.mono hbd.size); have sA : w.heap.size ≤ wA.heap.size := Nat.le_trans hz1 BA.size)
        | (go_at_call 39; (with_reducible refine (pP.out _ (inRow_pre HROW.out (HB.out.trans (BA.mono hz1)))).mono ?_); rintro e wB ⟨D, LD, rfl, bB⟩; have BB := BA.trans (bB.mono BA.size); have hDif := LD.info; obtain ⟨W9, hst, hd9, ht9⟩ := storeR33 (HRES.out.below BB HRES.out.lt) LD hzs; have sB : w.heap.size ≤ wB.heap.size := Nat.le_trans hz1 BB.size; have s9 : w.heap.size ≤ W9.heap.size := Nat.le_trans sB ht9.size)
        | fail "no arm")
    all_goals
      go_wp2_with fail
      refine bodyPost_ret (v := .agg D) (results_blk Try.results52 _ _ w.heap.size _ _ _ (by rfl) hd9 Try.underlying31 (by rfl) hDif) rfl ⟨by rw [LD.eq]; rfl, ?_⟩
      exact (HB.out.trans (BB.mono hz1)).trans (ht9.below sB (fun k hk => by omega))
  · go_enter Try.func52, Try.ntmps52
    go_upto_region 1 with fail
    rw [← hW1]
    clear hW1
    have s0 : w.heap.size ≤ W1.drew.heap.size := hz1
    go_region_held3 (fun W => w.heap.size ≤ W.heap.size) (first | exact s0 | exact sA | exact sB | exact s9 | fail "no keep")
      (first
        | (go_at_call 37; (with_reducible refine (pN.out _).mono ?_); rintro e wA ⟨rfl, bA⟩; have BA := hbd.trans (bA.mono hbd.size); have sA : w.heap.size ≤ wA.heap.size := Nat.le_trans hz1 BA.size)
        | (go_at_call 39; (with_reducible refine (pP.out _ (inRow_pre HROW.out (HB.out.trans (BA.mono hz1)))).mono ?_); rintro e wB ⟨D, LD, rfl, bB⟩; have BB := BA.trans (bB.mono BA.size); have hDif := LD.info; obtain ⟨W9, hst, hd9, ht9⟩ := storeR33 (HRES.out.below BB HRES.out.lt) LD hzs; have sB : w.heap.size ≤ wB.heap.size := Nat.le_trans hz1 BB.size; have s9 : w.heap.size ≤ W9.heap.size := Nat.le_trans sB ht9.size)
        | fail "no arm")
    all_goals
      go_wp2_with fail
      refine bodyPost_ret (v := .agg D) (results_blk Try.results52 _ _ w.heap.size _ _ _ (by rfl) hd9 Try.underlying31 (by rfl) hDif) rfl ⟨by rw [LD.eq]; rfl, ?_⟩
      exact (HB.out.trans (BB.mono hz1)).trans (ht9.below sB (fun k hk => by omega))
end Go.Proofs.Ytlhoffhagfhbcaa.Spe
namespace Go.Proofs.Ytlhoffhagfhbcaa.Spe
open Go.RowKit Go.Shelf Go.Sort Go.Proofs.Ytlhoffhagfhbcaa.Byt Go.Proofs.Ytlhoffhagfhbcaa.Gm Go.Proofs.Ytlhoffhagfhbcaa.RingE Go.Proofs.Ytlhoffhagfhbcaa.Num
set_option linter.all false
attribute [local go_sem] Oper.semAt_some

set_option maxRecDepth 100000 in
set_option maxHeartbeats 4000000 in
theorem cut_any (w : World) (sa sb : Nat) (a b : Option Addr) (ca cb : Nat) (xs ys : List (Nat × Nat)) (hx : InRow w a xs) (hy : InRow w b ys) (hlx : xs.length ≤ 20000) (hly : ys.length ≤ 20000) :
    Calls Try.prog 53 #[.agg #[.int .u32 (sa : Int), .slice a xs.length ca], .agg #[.int .u32 (sb : Int), .slice b ys.length cb]] w fun e w' => ∃ k : Nat, e = .returned (.int .i64 (k : Int)) ∧ k ≤ xs.length ∧ k ≤ ys.length ∧ (∀ j : Nat, j < k → xs[j]? = ys[j]?) ∧ (k < xs.length → k < ys.length → xs[k]? ≠ ys[k]?) ∧ Below w.heap.size w w' := by
  obtain ⟨l, hl⟩ : ∃ l, xs.length = l := ⟨_, rfl⟩
  obtain ⟨m, hm⟩ : ∃ m, ys.length = m := ⟨_, rfl⟩
  obtain ⟨W1, hW1⟩ : ∃ W1, W1 = (w.alloc (.cells #[.int .u32 (sa : Int), .slice a l ca] 49)).alloc (.cells #[.int .u32 (sb : Int), .slice b m cb] 49) := ⟨_, rfl⟩
  have hX : Blk W1 w.heap.size 49 #[.int .u32 (sa : Int), .slice a l ca] := by rw [hW1]; exact (Blk.new w _ _).alloc _
  have hY : Blk W1 (w.heap.size + 1) 49 #[.int .u32 (sb : Int), .slice b m cb] := by
    rw [hW1]
    have := Blk.new (w.alloc (.cells #[.int .u32 (sa : Int), .slice a l ca] 49)) 49 #[.int .u32 (sb : Int), .slice b m cb]
    simpa using this
  have hB : Below w.heap.size w W1 := by rw [hW1]; exact ((Below.refl _ w).alloc (Nat.le_refl _) _).alloc (by simp) _
  have x1 : W1.cell? ⟨w.heap.size, 1, none⟩ = some (.slice a l ca) := hX.cell 1
  have y1 : W1.cell? ⟨w.heap.size + 1, 1, none⟩ = some (.slice b m cb) := hY.cell 1
  have HA := Lib.hid (inRow_pre hx hB)
  have HC := Lib.hid (inRow_pre hy hB)
  have HB := Lib.hid hB
  have HL := Lib.hid hl
  have HM := Lib.hid hm
  rw [hl, hm]
  rw [hl] at hlx
  rw [hm] at hly
  clear hX hY hB hx hy hl hm
  go_enter Try.func53, Try.ntmps53
  go_upto_region 1 with fail
  rw [← hW1]
  clear hW1
  go_wp2_with fail
  go_loopw [5] (fun i wr => ∃ k : Nat, k ≤ l ∧ k ≤ m ∧ i = .int .i64 k ∧ (∀ j : Nat, j < k → xs[j]? = ys[j]?) ∧ ∃ nn, wr = W1.drewN nn) (fun i _ => l - (intOf i).toNat)
  case atStart => exact ⟨0, Nat.zero_le _, Nat.zero_le _, rfl, fun j hj => absurd hj (Nat.not_lt_zero _), 0, rfl⟩
  case round =>
    obtain ⟨k, hk, hk2, rfl, heq, nn, rfl⟩ := hrel
    have hbel := Lib.hid (below_drewN HB.out nn)
    have HE0 := Lib.hid heq
    clear heq
    by_cases c1 : k < l
    · have c1' : (k : Int) < (l : Int) := by omega
      by_cases c2 : k < m
      · have c2' : (k : Int) < (m : Int) := by omega
        obtain ⟨ga, oa, rfl, hga, ca'⟩ := HA.out.2 (by rw [HL.out]; omega)
        obtain ⟨gb, ob, rfl, hgb, cb'⟩ := HC.out.2 (by rw [HM.out]; omega)
        obtain ⟨x, hx⟩ : ∃ x, xs[k]? = some x := ⟨xs[k]'(by rw [HL.out]; exact c1), List.getElem?_eq_getElem (by rw [HL.out]; exact c1)⟩
        obtain ⟨y, hy⟩ : ∃ y, ys[k]? = some y := ⟨ys[k]'(by rw [HM.out]; exact c2), List.getElem?_eq_getElem (by rw [HM.out]; exact c2)⟩
        have r1 := ca' k (by rw [HL.out]; exact c1)
        have r2 := cb' k (by rw [HM.out]; exact c2)
        obtain ⟨d0, d1⟩ := I2.inA_get hx
        obtain ⟨g0, g1⟩ := I2.inA_get hy
        rw [d0, d1] at r1
        rw [g0, g1] at r2
        have hbx := HA.out.1 _ (List.mem_of_getElem? hx)
        have hby := HC.out.1 _ (List.mem_of_getElem? hy)
        have i1 : (0 : Int) ≤ (k : Int) := by omega
        have hEq0 := fun W => in_eql W _ _ hbx hby
        have HX := Lib.hid hx
        have HY := Lib.hid hy
        clear ca' cb' hx hy d0 d1 g0 g1
        obtain ⟨x0, x1'⟩ := x
        obtain ⟨y0, y1'⟩ := y
        obtain ⟨ra0, ra1⟩ := r1
        obtain ⟨rb0, rb1⟩ := r2
        by_cases hv : (x0, x1') = (y0, y1')
        · have HE := Lib.hid (show ∀ j : Nat, j < k + 1 → xs[j]? = ys[j]? from fun j hj => by
            rcases Nat.lt_or_ge j k with h | h
            · exact HE0.out j h
            · obtain rfl : j = k := by omega
              rw [HX.out, HY.out, hv])
          have hEq : ∀ W, (Op.equalIn 10000 69 (.agg #[.int .u16 (x0 : Int), .int .u16 (x1' : Int)]) (.agg #[.int .u16 (y0 : Int), .int .u16 (y1' : Int)])).run Try.prog W = .ok true W := fun W => by
            have := hEq0 W
            rw [decide_eq_true hv] at this
            exact this
          clear hv hEq0
          go_wp2_with fail
          go_quiet (fail)
          go_wp2_with fail
          go_roundw
          case rel => exact ⟨k + 1, by omega, by omega, by go_num, HE.out, _, rfl⟩
          case measure => simp [intOf]; omega
        · have HD := Lib.hid (show xs[k]? ≠ ys[k]? from fun e => hv (by
            rw [HX.out, HY.out] at e
            exact Option.some.inj e))
          have hEq : ∀ W, (Op.equalIn 10000 69 (.agg #[.int .u16 (x0 : Int), .int .u16 (x1' : Int)]) (.agg #[.int .u16 (y0 : Int), .int .u16 (y1' : Int)])).run Try.prog W = .ok false W := fun W => by
            have := hEq0 W
            rw [decide_eq_false hv] at this
            exact this
          clear hEq0 hv
          go_wp2_with fail
          go_quiet (fail)
          go_wp2_with fail
          go_ret
          exact ⟨k, rfl, hk, hk2, HE0.out, fun _ _ => HD.out, below_drewN hbel.out _⟩
      · have c2' : ¬ (k : Int) < (m : Int) := by omega
        have c2n : ¬ k < m := c2
        go_wp2_with fail
        go_quiet (fail)
        go_wp2_with fail
        go_ret
        exact ⟨k, rfl, hk, hk2, HE0.out, fun _ h => absurd h c2, below_drewN hbel.out _⟩
    · have c1' : decide ((k : Int) < (l : Int)) = false := by simp; omega
      have c1n : decide (k < l) = false := by simp; omega
      have HC1 := Lib.hid c1
      clear c1
      go_wp2_with fail
      go_quiet (fail)
      go_wp2_with fail
      go_ret
      exact ⟨k, rfl, hk, hk2, HE0.out, fun h => absurd h HC1.out, below_drewN hbel.out _⟩
end Go.Proofs.Ytlhoffhagfhbcaa.Spe
namespace Go.Proofs.Ytlhoffhagfhbcaa
open Go.RowKit
set_option linter.all false

/-- It speaks of the blocks below B alone. -/
def Frm {β : Type} (B : Nat) (J : β → World → Prop) : Prop := ∀ s A C, J s A → Below B A C → J s C
theorem Frm.and {β : Type} {B : Nat} {I J : β → World → Prop} (h : Frm B I) (h' : Frm B J) : Frm B (fun s W => I s W ∧ J s W) := fun s A C hs hb => ⟨h s A C hs.1 hb, h' s A C hs.2 hb⟩
theorem frm_obj {β : Type} {B k : Nat} (o : Obj) (hk : k < B) : Frm B (fun (_ : β) W => W.heap[k]? = some o) := fun _ A C hs hb => (hb.block k hk).trans hs
theorem Frm.up {β : Type} {B B' : Nat} {J : β → World → Prop} (h : Frm B J) (hB : B ≤ B') : Frm B' J := fun s A C hs hb => h s A C hs (hb.mono hB)
theorem below_put {s l : Nat} (h : s ≤ l) (W : World) (o : Obj) : Below s W (W.putObj l o) := ⟨rfl, rfl, rfl, by simp, fun k hk => World.putObj_heap_other (by omega)⟩

theorem range_nat {F : Fence} {n : Nat} {P : Program} {g : Operand} {ps : Array Tmp} {assign body : Code} {Q : Exit → Act → World → Prop} {a : Act} {w : World}
    (hro : F.round = none) (h1 : 1 ≤ n) {gf : Nat} {lb : Array Value} (hg : a.eval g = .func (.func gf) #[] lb) (hFg : F.fn gf) (eg : ∀ args w, (callFunc gf args).run P w = .ok (.enter gf args) w)
    {encs : Nat → Array Value} {Kp : World → World → Prop} {N : Nat}
    (hseq : ∀ (W1 : World) (J Jx : Nat → World → Prop), Below w.heap.size w W1 → W1.heap.size = w.heap.size + 2 → Frm (w.heap.size + 2) J → Frm (w.heap.size + 2) Jx →
      (∀ k W, k < N → J k W → YieldAt F (n - 1 - 1) P (w.heap.size + 1) (encs k) W fun e W' =>
        (e = .returned (.bool true) ∧ J (k + 1) W' ∧ Kp W W') ∨ (e = .returned (.bool false) ∧ Jx (k + 1) W' ∧ Kp W W')) → J 0 W1 →
      CallsIn F (n - 1) P gf (#[.func (.yield (w.heap.size + 1)) #[] #[]] ++ lb) W1 fun e W' => (∃ v, e = .returned v) ∧ (J N W' ∨ (∃ k, k ≤ N ∧ Jx k W')))
    (hKt : ∀ {A B C : World}, Kp A B → Kp B C → Kp A C) (hKb : ∀ (W : World) (o : Obj), Kp W (W.putObj (w.heap.size + 1) o)) (hps : ∀ x, (encs x).size = ps.size)
    (I Ix : Nat → World → Prop) (hI : Frm w.heap.size I) (hIx : Frm w.heap.size Ix) (h0 : I 0 w) (a₁ : Nat → Act)
    (hassign : ∀ (l : Nat) (x : Nat) (W : World) (K : Act → World → Prop), K (a₁ x) W →
      assign.wpIn (F.inRound l) (n - 1 - 1) P (Exit.then K (fun _ _ _ => False)) { tmps := (ps.zip (encs x)).foldl (fun t (p, v) => t.setIfInBounds p v) a.tmps, defers := [] } W)
    (hbody : ∀ (l k : Nat) (W : World), I k W → k < N → body.wpIn (F.inRound l) (n - 1 - 1) P
      (RoundEnd (fun V => KeepsFrom w.heap.size W V ∧ Kp W V ∧ I (k + 1) V) (fun V => KeepsFrom w.heap.size W V ∧ Kp W V ∧ Ix (k + 1) V)) (a₁ k) W)
    (hdone : ∀ (D : Nat) (W : World), w.heap.size ≤ D → I N W → W.heap[D]? = some (.deferred (some [])) → Q .normal { a with defers := { target := .collected D, args := #[] } :: a.defers } W)
    (hstop : ∀ (D k : Nat) (W : World), w.heap.size ≤ D → k ≤ N → Ix k W → W.heap[D]? = some (.deferred (some [])) → Code.ret.wpIn F n P Q { a with defers := { target := .collected D, args := #[] } :: a.defers } W) :
    (Code.rangeFunc g ps assign body).wpIn F n P Q a w := by
  refine wpIn_rangeFunc fun fn hfn => ?_
  rw [hro]
  obtain ⟨s, hs⟩ : ∃ s, s = w.heap.size := ⟨_, rfl⟩
  obtain ⟨r, hr⟩ : ∃ r : Loop, r = { state := .ready, pending := none, fn, tmps := a.tmps, params := ps, assign, body, defers := s } := ⟨_, rfl⟩
  obtain ⟨V, hV⟩ : ∃ V, V = (w.alloc (.deferred (some []))).alloc (.loop r) := ⟨_, rfl⟩
  have z0 : V.heap.size = s + 2 := by rw [hV, hs]; simp
  have zl : V.heap[s + 1]? = some (.loop r) := by
    have := World.alloc_heap_new (w.alloc (.deferred (some []))) (.loop r)
    rw [World.size_alloc] at this; rw [hV, hs]; exact this
  have zd : V.heap[s]? = some (.deferred (some [])) := by
    rw [hV, hs]; exact (Below.heap_alloc _ _ _ (by simp)).trans (World.alloc_heap_new w _)
  have zb : Below w.heap.size w V := by rw [hV]; exact ((Below.refl _ w).alloc (Nat.le_refl _) _).alloc (by simp) _
  have zi : I 0 V := hI 0 w V h0 zb
  rw [← hs] at hseq hKb hI hIx hdone hstop hbody
  refine ⟨s + 1, [{ target := .collected s, args := #[] }], V, { target := .fn (.func gf) lb, args := #[.func (.yield (s + 1)) #[] #[]] }, V, gf, #[.func (.yield (s + 1)) #[] #[]] ++ lb, V, ?_, ?_, ?_, ?_, fun _ => h1, ?_⟩
  · rw [hV, hr, hs]; exact run_enterLoop_outer _ _ _ _ _
  · simp only [resolve, hg]
    simp [go_sem]
  · intro f' hf'; simp [Target.leads] at hf'; subst hf'; exact hFg
  · simp [invoke, go_sem, eg]
  refine (hseq V (fun k W => (I k W ∧ W.heap[s + 1]? = some (.loop r)) ∧ W.heap[s]? = some (.deferred (some [])))
    (fun k W => (Ix k W ∧ W.heap[s + 1]? = some (.loop { r with state := .done, pending := some .ret })) ∧ W.heap[s]? = some (.deferred (some [])))
    (hs ▸ zb) z0 (((hI.up (by omega)).and (frm_obj _ (by omega))).and (frm_obj _ (by omega))) (((hIx.up (by omega)).and (frm_obj _ (by omega))).and (frm_obj _ (by omega))) ?_ ⟨⟨zi, zl⟩, zd⟩).mono ?_
  · rintro k W hlen ⟨⟨i, il⟩, id⟩
    have hlt : s + 1 < W.heap.size := (Array.getElem?_eq_some_iff.1 il).1
    have bl : (W.putObj (s + 1) (.loop { r with state := .busy })).heap[s + 1]? = some (.loop { r with state := .busy }) := World.putObj_heap_same hlt
    have bd : (W.putObj (s + 1) (.loop { r with state := .busy })).heap[s]? = some (.deferred (some [])) := (World.putObj_heap_other (by omega)).trans id
    have hb := hbody (s + 1) k _ (hI k W _ i (below_put (l := s + 1) (Nat.le_succ s) W (.loop { r with state := .busy }))) hlen
    have hy := yield_round (F := F) (m := n - 1 - 1) (P := P) (l := s + 1) (r := r) (args := encs k) (W := W) (a1 := a₁ k)
      (A := fun U => U.heap[s]? = some (.deferred (some [])) ∧ Kp (W.putObj (s + 1) (.loop { r with state := .busy })) U ∧ I (k + 1) U)
      (X := fun U => U.heap[s]? = some (.deferred (some [])) ∧ Kp (W.putObj (s + 1) (.loop { r with state := .busy })) U ∧ Ix (k + 1) U)
      (by rw [hr]; exact hfn) il (by rw [hr]) (by rw [hr]; exact hps k) (fun K hK => by rw [hr]; exact hassign _ k W K hK)
      (by
        have hrb : r.body = body := by rw [hr]
        have hb2 := hb
        rw [← hrb] at hb2
        refine wpIn_mono hb2 ?_
        intro e _ U h
        cases e with
        | normal => exact ⟨h.1.same _ _ (by omega) bl rfl, h.1.same _ _ (by omega) bd rfl, h.2⟩
        | ret => exact ⟨h.1.same _ _ (by omega) bl rfl, h.1.same _ _ (by omega) bd rfl, h.2⟩
        | exit id => exact h.elim
        | goto t => exact h.elim
        | panic c => exact h.elim
        | outgrown => exact h.elim)
    obtain ⟨f', t', as', bo', hrun, hR⟩ := hy
    refine ⟨f', t', as', bo', hrun, hR.mono ?_⟩
    rintro e U (⟨rfl, U1, ul, ⟨ud, uk, ui⟩, rfl⟩ | ⟨rfl, U1, ul, ⟨ud, uk, ui⟩, rfl⟩)
    · have hlt1 : s + 1 < U1.heap.size := (Array.getElem?_eq_some_iff.1 ul).1
      have er : ({ r with state := .ready, pending := none } : Loop) = r := by rw [hr]
      rw [er]
      exact .inl ⟨rfl, ⟨⟨hI _ U1 _ ui (below_put (l := s + 1) (Nat.le_succ s) U1 _), World.putObj_heap_same hlt1⟩, (World.putObj_heap_other (by omega)).trans ud⟩, hKt (hKt (hKb W _) uk) (hKb U1 _)⟩
    · have hlt1 : s + 1 < U1.heap.size := (Array.getElem?_eq_some_iff.1 ul).1
      exact .inr ⟨rfl, ⟨⟨hIx _ U1 _ ui (below_put (l := s + 1) (Nat.le_succ s) U1 _), World.putObj_heap_same hlt1⟩, (World.putObj_heap_other (by omega)).trans ud⟩, hKt (hKt (hKb W _) uk) (hKb U1 _)⟩
  · rintro e U ⟨⟨v, rfl⟩, (⟨⟨ui, ul⟩, ud⟩ | ⟨k, hk, ⟨ui, ul⟩, ud⟩)⟩
    · have hend := run_endLoop (P := P) ul (by rw [hr]; simp)
      have ep : r.pending = none := by rw [hr]
      rw [ep] at hend
      exact ⟨none, _, hend, hdone s _ (Nat.le_refl _) (hI _ U _ ui (below_put (l := s + 1) (Nat.le_succ s) U _)) ((World.putObj_heap_other (by omega)).trans ud)⟩
    · exact ⟨some .ret, _, run_endLoop (P := P) ul (by simp), hstop s k _ (Nat.le_refl _) hk (hIx _ U _ ui (below_put (l := s + 1) (Nat.le_succ s) U _)) ((World.putObj_heap_other (by omega)).trans ud)⟩
end Go.Proofs.Ytlhoffhagfhbcaa
namespace Go.Proofs.Ytlhoffhagfhbcaa.Spe
open Go.RowKit Go.Shelf Go.Sort Go.Proofs.Ytlhoffhagfhbcaa.Byt Go.Proofs.Ytlhoffhagfhbcaa.Gm Go.Proofs.Ytlhoffhagfhbcaa.RingE Go.Proofs.Ytlhoffhagfhbcaa.Num
set_option linter.all false
attribute [local go_sem] Oper.semAt_some
/-- A load of a state, shut. -/
def loadS (v : Value) : Sem Value := Instr.loadAt 31 v
theorem loadAt_S (v : Value) : Instr.loadAt 31 v = loadS v := rfl
theorem run_loadS (w : World) (g : Nat) (h : (cellsAt w g).size = 66) : Sem.run Try.prog (loadS (.pointer (some ⟨g, 0, none⟩))) w = .ok (.agg (cellsAt w g)) w := run33 w g h
attribute [local go_sem ↓] loadAt_S
attribute [local go_sem] run_loadS cellsAt_drew

def stK (sd : Nat) (ls : List (Nat × Nat)) (p : Nat) : F := playF (newF (sd : Int)) ls p
def encT (sd : Nat) (ls : List (Nat × Nat)) (ev k : Nat) : Array Value := #[.int .i64 ((k * ev : Nat) : Int), .int .u32 (sumL (stB (stK sd ls (k * ev))))]
/-- What a round keeps: the blocks of K, and all from B on. -/
def KeepT (K : Nat → Prop) (B : Nat) (A C : World) : Prop := KeepB K A C ∧ A.heap.size ≤ C.heap.size ∧ ∀ k, B ≤ k → k < A.heap.size → C.heap[k]? = A.heap[k]?
theorem keepT_t {K : Nat → Prop} {B : Nat} {A C D : World} (h : KeepT K B A C) (h' : KeepT K B C D) : KeepT K B A D :=
  ⟨keepB_t h.1 h'.1, Nat.le_trans h.2.1 h'.2.1, fun k hk hl => (h'.2.2 k hk (Nat.lt_of_lt_of_le hl h.2.1)).trans (h.2.2 k hk hl)⟩
theorem near {l ev p c : Nat} (he : 1 ≤ ev) (h1 : p ≤ c * ev) (h2 : c * ev < p + ev) :
    (p % ev = 0 → c * ev = p ∧ p + 1 ≤ (c + 1) * ev ∧ (c + 1) * ev < p + 1 + ev) ∧ (p % ev ≠ 0 → p + 1 ≤ c * ev ∧ c * ev < p + 1 + ev) ∧ (c * ev = p → p ≤ l → c < l / ev + 1) ∧ (p = l + 1 → c = l / ev + 1) := by
  have hs : (c + 1) * ev = c * ev + ev := Nat.succ_mul c ev
  refine ⟨fun h => ?_, fun h => ?_, fun h hp => ?_, fun h => ?_⟩
  · obtain ⟨q, hq⟩ := Nat.dvd_of_mod_eq_zero h
    have e1 : c * ev = p := by
      rw [hq, Nat.mul_comm ev q] at h1 h2
      have a1 : q ≤ c := Nat.le_of_mul_le_mul_right h1 (by omega)
      have a2 : c < q + 1 := Nat.lt_of_mul_lt_mul_right (a := ev) (by rw [Nat.succ_mul]; exact h2)
      have : c = q := by omega
      rw [this, hq, Nat.mul_comm]
    omega
  · have : p ≠ c * ev := fun e => h (by rw [e]; exact Nat.mul_mod_left c ev)
    omega
  · have : c ≤ l / ev := (Nat.le_div_iff_mul_le (show 0 < ev by omega)).2 (by omega)
    omega
  · have a1 : l / ev < c := (Nat.div_lt_iff_lt_mul (show 0 < ev by omega)).2 (by omega)
    have a0 : 0 < c := Nat.lt_of_le_of_lt (Nat.zero_le _) a1
    have a2 : c - 1 ≤ l / ev := by
      refine (Nat.le_div_iff_mul_le (show 0 < ev by omega)).2 ?_
      have : (c - 1) * ev + ev = c * ev := by rw [← Nat.succ_mul]; congr 1; omega
      omega
    omega

set_option maxRecDepth 100000 in
set_option maxHeartbeats 8000000 in
theorem sumsT_in (lo eb tb B : Nat) (K : Nat → Prop) (sd ev : Nat) (hs : sd < 4294967296) (a : Option Addr) (cap : Nat) (ls : List (Nat × Nat)) (J Jx : Nat → World → Prop) (hev : 1 ≤ ev) (hev2 : ev ≤ 9223372036854775807)
    (hY : ∀ k W1, k < ls.length / ev + 1 → J k W1 → YieldAt Fence.wide 7 Try.prog lo (encT sd ls ev k) W1 fun e W' =>
      (e = .returned (.bool true) ∧ J (k + 1) W' ∧ KeepT K B W1 W') ∨ (e = .returned (.bool false) ∧ Jx (k + 1) W' ∧ KeepT K B W1 W'))
    (W : World) (hWB : W.heap.size = B) (hJ : Frm B J) (hJx : Frm B Jx) (he : Blk W eb 3 #[.int .i64 (ev : Int)]) (ht : Blk W tb 49 #[.int .u32 (sd : Int), .slice a ls.length cap]) (hrow : InRow W a ls)
    (hKe : K eb) (hKt : K tb) (hKa : 0 < ls.length → ∀ b, a.map (·.block) = some b → K b) (hK : ∀ k, K k → k < B) (hl : ls.length ≤ 20000) (hJ0 : J 0 W) :
    CallsIn Fence.wide 8 Try.prog 100 #[.func (.yield lo) #[] #[], .pointer (some ⟨eb, 0, none⟩), .pointer (some ⟨tb, 0, none⟩)] W fun e W' => (∃ v, e = .returned v) ∧ (J (ls.length / ev + 1) W' ∨ ∃ k, k ≤ ls.length / ev + 1 ∧ Jx k W') := by
  refine (callsIn_wide (n := 8)).2 ?_
  subst hWB
  obtain ⟨l, hll⟩ : ∃ l, ls.length = l := ⟨_, rfl⟩
  rw [hll] at ht hl ⊢
  obtain ⟨C, LC⟩ := let_of (newF (sd : Int))
  have hI := Inv.new (sd : Int) (by omega) (by omega)
  have pN' : ∀ W, Calls Try.prog 35 #[.int .u32 (sd : Int)] W fun e w' => e = .returned (.agg C) ∧ Below W.heap.size W w' := fun W => by
    have := new_any W (sd : Int) (by omega) (by omega)
    unfold stV at this
    rw [← LC.eq] at this
    exact this
  have pN := Lib.hid pN'
  have HI := Lib.hid hI
  have HAC := Lib.hid (fun W => alloc_store W LC)
  have hcs := LC.size
  have HLC := Lib.hid LC
  have e0 : W.cell? ⟨eb, 0, none⟩ = some (.int .i64 (ev : Int)) := he.cell 0
  have t0 : W.cell? ⟨tb, 0, none⟩ = some (.int .u32 (sd : Int)) := ht.cell 0
  have hev0 : ¬ (ev : Int) < 1 := by omega
  have hev1 : decide ((ev : Int) < 1) = false := by simp; omega
  have HE := Lib.hid he
  have HT := Lib.hid ht
  have HROW := Lib.hid hrow
  have HJ := Lib.hid hJ
  have HJX := Lib.hid hJx
  have HJ0 := Lib.hid hJ0
  have HY := Lib.hid hY
  have HLL := Lib.hid hll
  clear pN' hI LC he ht hrow hJ hJx hJ0 hY hll
  go_enter Try.func100, Try.ntmps100
  go_wp2_with fail
  refine (pN.out _).mono ?_
  rintro e w2 ⟨rfl, b2⟩
  obtain ⟨W3, hrun, hS3, hB3, hz3⟩ := HAC.out w2
  have hz66' := hz66
  go_upto_region 2 with fail
  have b3 := b2.trans (hB3.mono b2.size)
  have hsb := b2.size
  obtain ⟨sb, hsbn⟩ : ∃ sb, sb = w2.heap.size := ⟨_, rfl⟩
  rw [← hsbn] at hS3 hsb ⊢
  have hJ3 := HJ.out 0 W W3 HJ0.out b3
  have hK3 : KeepB K W W3 := fun k hk => b3.block k (hK k hk)
  have hz3' : W.heap.size ≤ W3.heap.size := b3.size
  clear hrun hz66' hB3 hz3 b2 b3 e0 t0 hsbn hcs
  go_wp2_with fail
  go_loopw [5] (fun iv wr => ∃ p c : Nat, p ≤ l + 1 ∧ iv = .int .i64 (p : Int) ∧ p ≤ c * ev ∧ c * ev < p + ev ∧ J c wr ∧ SB wr sb 31 (stK sd ls (min p l)) ∧ KeepB K W wr ∧ W.heap.size ≤ wr.heap.size) (fun iv _ => l + 1 - (intOf iv).toNat)
  case atStart => exact ⟨0, 0, Nat.zero_le _, rfl, by omega, by omega, hJ3, by rw [Nat.zero_min]; exact hS3, hK3, hz3'⟩
  case round =>
    clear hJ3 hS3 hK3 hz3'
    obtain ⟨p, c, hp, rfl, hc1, hc2, hj, hS, hk, hz⟩ := hrel
    obtain ⟨nA, nB, nC, nD⟩ := near (l := l) hev hc1 hc2
    by_cases hlt : p ≤ l
    · have hmin : min p l = p := Nat.min_eq_left hlt
      rw [hmin] at hS
      have hpl : (p : Int) ≤ (l : Int) := by omega
      have e0 : wr.cell? ⟨eb, 0, none⟩ = some (.int .i64 (ev : Int)) := cell_keep (HE.out.cell 0) hk hKe
      have t1 : wr.cell? ⟨tb, 1, none⟩ = some (.slice a l cap) := cell_keep (HT.out.cell 1) hk hKt
      obtain ⟨C5, LC5⟩ := let_of (stK sd ls p)
      have hX5 := LC5.blk hS
      have c0 : cellsAt wr sb = C5 := cellsAt_blk hX5
      have hcs5 := LC5.size
      have hInv := HI.out.play ls p
      have hwf := hInv.wf (by omega) (by omega) (by omega)
      obtain ⟨S, hSv⟩ : ∃ S, S = sumL (stB (stK sd ls p)) := ⟨_, rfl⟩
      have pSum' : ∀ W, Calls Try.prog 33 #[.agg C5] W fun e w' => e = .returned (.int .u32 S) ∧ Below W.heap.size W w' := fun W => by
        have := sum_any W (stK sd ls p) hwf
        unfold stV at this
        rw [← LC5.eq, ← hSv] at this
        exact this
      have pSum := Lib.hid pSum'
      have hrem : Int.tmod (p : Int) (ev : Int) = ((p % ev : Nat) : Int) := rfl
      have HX5 := Lib.hid hX5
      have HLC5 := Lib.hid LC5
      have HKP := Lib.hid hk
      have HJJ := Lib.hid hj
      have hp0 : (0 : Int) ≤ (p : Int) := by omega
      have hev9 : ¬ (ev : Int) = 0 := by omega
      have HINV := Lib.hid hInv
      clear pSum' hX5 LC5 hwf hS hk hj hInv hmin
      by_cases hm : p % ev = 0
      · obtain ⟨hce, hn1, hn2⟩ := nA hm
        have henc : encT sd ls ev c = #[.int .i64 (p : Int), .int .u32 S] := by unfold encT; rw [hce, hSv]
        have hYk : ∀ W1, J c W1 → YieldAt Fence.wide 7 Try.prog lo #[.int .i64 (p : Int), .int .u32 S] W1 fun e W' => ∃ bb, e = .returned (.bool bb) ∧ KeepT K W.heap.size W1 W' ∧ (if bb = true then J (c + 1) W' else Jx (c + 1) W') := fun W1 h => by
          have := HY.out c W1 (by rw [HLL.out]; exact nC hce hlt) h
          rw [henc] at this
          obtain ⟨fn, tmps, assign, body, hy, hR⟩ := this
          refine ⟨fn, tmps, assign, body, hy, RoundIn.mono hR (fun e W' h => ?_)⟩
          rcases h with ⟨rfl, h1, h2⟩ | ⟨rfl, h1, h2⟩
          · exact ⟨true, rfl, h2, by simpa using h1⟩
          · exact ⟨false, rfl, h2, by simpa using h1⟩
        have HYk := Lib.hid hYk
        rw [hm] at hrem
        have hrem' : Int.tmod (p : Int) (ev : Int) = 0 := hrem
        have HN1 := Lib.hid hn1
        have HN2 := Lib.hid hn2
        have HNC := Lib.hid (nC hce hlt)
        clear hYk henc nA nB nC nD hc1 hc2 hn1 hn2 hSv hm hrem hce
        go_upto_region 5 with fail
        refine (wpIn_wide (n := 8)).1 ?_
        gi_wp2_with (first
          | (refine And.intro (show Fence.wide.fn _ from trivial) ?_; gi_at_call 33; refine ((callsIn_wide (n := _)).2 (pSum.out _)).mono ?_; rintro e w5 ⟨rfl, b5⟩; obtain ⟨fn, tmps, assign, body, hy, hR⟩ := HYk.out w5 (HJ.out _ _ _ HJJ.out (b5.mono hz)))
          | (refine hR.mono ?_; rintro e W6 ⟨bb, rfl, hkt, hq⟩)
          | fail)
        have hX6 : Blk W6 sb 31 C5 := by
          have h5 := HX5.out.below b5 HX5.out.lt
          exact (hkt.2.2 sb hsb h5.lt).trans h5
        have HX6 := Lib.hid hX6
        have hk6 : KeepB K W W6 := keepB_t HKP.out (keepB_t (fun k hk => b5.block k (Nat.lt_of_lt_of_le (hK k hk) hz)) hkt.1)
        have hz6 : W.heap.size ≤ W6.heap.size := Nat.le_trans (Nat.le_trans hz b5.size) hkt.2.1
        clear hR b5 hkt hX6 HX5 c0 e0 t1 hy
        cases bb
        · have hq' : Jx (c + 1) W6 := by simpa using hq
          clear hq
          go_wp2_with fail
          refine bodyPost_ret (results_none rfl _ _ _) rfl ⟨⟨_, rfl⟩, .inr ⟨c + 1, HNC.out, hq'⟩⟩
        · have hq' : J (c + 1) W6 := by simpa using hq
          have HJ6 := Lib.hid hq'
          have HK6 := Lib.hid hk6
          clear hq hq' hk6
          by_cases hpl2 : p < l
          · have hplI : (p : Int) < (l : Int) := by omega
            have t1 : W6.cell? ⟨tb, 1, none⟩ = some (.slice a l cap) := cell_keep (HT.out.cell 1) HK6.out hKt
            obtain ⟨b, off, rfl, hbl, hcell⟩ := HROW.out.2 (by rw [HLL.out]; omega)
            have hkb : K b := hKa (by rw [HLL.out]; omega) b rfl
            obtain ⟨r0, r1⟩ := hcell p (by rw [HLL.out]; exact hpl2)
            have c0 : W6.cell? ⟨b, off + p * 2, none⟩ = some (.int .u16 (inA ls p 0)) := cell_keep r0 HK6.out hkb
            have c1 : W6.cell? ⟨b, off + p * 2 + 1, none⟩ = some (.int .u16 (inA ls p 1)) := cell_keep r1 HK6.out hkb
            have pS := Lib.hid (fun W => step_any W (stK sd ls p) _ _ (inA ls p) (inA_lt HROW.out.1 p) HINV.out (by omega) (by omega) (by omega))
            unfold inV stV at pS
            obtain ⟨D, LD⟩ := let_of (stK sd ls (p + 1))
            rw [← HLC5.out.eq, show stepF (stK sd ls p) (inA ls p) = stK sd ls (p + 1) from rfl, ← LD.eq] at pS
            have hifD := LD.info
            have hCD : C5.size = D.size := by rw [HLC5.out.size, LD.size]
            have honeD := LD.one
            have hif5 := HLC5.out.info
            have HD := Lib.hid LD
            have HCD := Lib.hid hCD
            have hX := HX6.out
            have hsbV := hX.lt
            clear r0 r1 hcell LD hCD
            generalize inA ls p 0 = n0 at *
            generalize inA ls p 1 = n1 at *
            go_upto_region 7 with fail
            refine wp_region_still_tail 6 (by kernel_rfl) (by kernel_rfl) ?_
            simp only [List.take_succ_cons, List.take_zero, List.drop_succ_cons, List.drop_zero]
            refine wpStill_load_blk (by rfl) 31 _ (by rfl) sb (by rfl) _ C5 _ hX.drew Try.underlying31 (by rfl) hif5 ?_
            iterate 5 still_step
            refine wpStill_nil ?_
            change wpList _ _ _ _ _ (World.drew _)
            go_wp2_with fail
            refine (pS.out _).mono ?_
            rintro e w7 ⟨rfl, b7⟩
            have b7' : Below W6.heap.size W6 w7 := ⟨b7.os, b7.tape, b7.output, b7.size, b7.block⟩
            have X7 := hX.below b7' hsbV
            clear hX c0 c1 t1 pS hif5 b7
            go_wp2_with (refine wpList_store_blk (by rfl) 31 _ _ (by rfl) sb D (by rfl) (by rfl) _ C5 X7 hifD HCD.out honeD ?_; intro W8 hd8 ht8)
            have b8 : Below W.heap.size W6 W8 := (b7'.mono hz6).trans (ht8.below (Nat.le_trans hz6 b7'.size) (fun k hk => by omega))
            exact ⟨⟨p + 1, (c + 1), by omega, by simp, HN1.out, HN2.out, HJ.out _ _ _ HJ6.out b8, by rw [show min (p + 1) l = p + 1 by omega]; exact HD.out.sb hd8, keepB_t HK6.out (fun k hk => b8.block k (hK k hk)), Nat.le_trans hz6 b8.size⟩, by simp [intOf] <;> omega⟩
          · obtain rfl : p = l := by omega
            have hplI : ¬ (p : Int) < (p : Int) := by omega
            have t1 : W6.cell? ⟨tb, 1, none⟩ = some (.slice a p cap) := cell_keep (HT.out.cell 1) HK6.out hKt
            go_wp2_with fail
            exact ⟨⟨p + 1, (c + 1), by omega, by simp, HN1.out, HN2.out, HJ6.out, by rw [show min (p + 1) p = p by omega]; exact HLC5.out.sb HX6.out, HK6.out, hz6⟩, by simp [intOf] <;> omega⟩
      · obtain ⟨hn1, hn2⟩ := nB hm
        have hrem2 : decide (((p % ev : Nat) : Int) = 0) = false := by simp; omega
        have hrem3 : ¬ ((p % ev : Nat) : Int) = 0 := by omega
        have HN1 := Lib.hid hn1
        have HN2 := Lib.hid hn2
        clear nA nB nC nD hc1 hc2 hn1 hn2 hSv c0
        go_upto_region 6 with fail
        by_cases hpl2 : p < l
        · have hplI : (p : Int) < (l : Int) := by omega
          have t1 : wr.cell? ⟨tb, 1, none⟩ = some (.slice a l cap) := cell_keep (HT.out.cell 1) HKP.out hKt
          obtain ⟨b, off, rfl, hbl, hcell⟩ := HROW.out.2 (by rw [HLL.out]; omega)
          have hkb : K b := hKa (by rw [HLL.out]; omega) b rfl
          obtain ⟨r0, r1⟩ := hcell p (by rw [HLL.out]; exact hpl2)
          have c0 : wr.cell? ⟨b, off + p * 2, none⟩ = some (.int .u16 (inA ls p 0)) := cell_keep r0 HKP.out hkb
          have c1 : wr.cell? ⟨b, off + p * 2 + 1, none⟩ = some (.int .u16 (inA ls p 1)) := cell_keep r1 HKP.out hkb
          have pS := Lib.hid (fun W => step_any W (stK sd ls p) _ _ (inA ls p) (inA_lt HROW.out.1 p) HINV.out (by omega) (by omega) (by omega))
          unfold inV stV at pS
          obtain ⟨D, LD⟩ := let_of (stK sd ls (p + 1))
          rw [← HLC5.out.eq, show stepF (stK sd ls p) (inA ls p) = stK sd ls (p + 1) from rfl, ← LD.eq] at pS
          have hifD := LD.info
          have hCD : C5.size = D.size := by rw [HLC5.out.size, LD.size]
          have honeD := LD.one
          have hif5 := HLC5.out.info
          have HD := Lib.hid LD
          have HCD := Lib.hid hCD
          have hX := HX5.out
          have hsbV := hX.lt
          clear r0 r1 hcell LD hCD
          generalize inA ls p 0 = n0 at *
          generalize inA ls p 1 = n1 at *
          go_upto_region 7 with fail
          refine wp_region_still_tail 6 (by kernel_rfl) (by kernel_rfl) ?_
          simp only [List.take_succ_cons, List.take_zero, List.drop_succ_cons, List.drop_zero]
          refine wpStill_load_blk (by rfl) 31 _ (by rfl) sb (by rfl) _ C5 _ hX.drew Try.underlying31 (by rfl) hif5 ?_
          iterate 5 still_step
          refine wpStill_nil ?_
          change wpList _ _ _ _ _ (World.drew _)
          go_wp2_with fail
          refine (pS.out _).mono ?_
          rintro e w7 ⟨rfl, b7⟩
          have b7' : Below wr.heap.size wr w7 := ⟨b7.os, b7.tape, b7.output, b7.size, b7.block⟩
          have X7 := hX.below b7' hsbV
          clear hX c0 c1 t1 pS hif5 b7
          go_wp2_with (refine wpList_store_blk (by rfl) 31 _ _ (by rfl) sb D (by rfl) (by rfl) _ C5 X7 hifD HCD.out honeD ?_; intro W8 hd8 ht8)
          have b8 : Below W.heap.size wr W8 := (b7'.mono hz).trans (ht8.below (Nat.le_trans hz b7'.size) (fun k hk => by omega))
          exact ⟨⟨p + 1, c, by omega, by simp, HN1.out, HN2.out, HJ.out _ _ _ HJJ.out b8, by rw [show min (p + 1) l = p + 1 by omega]; exact HD.out.sb hd8, keepB_t HKP.out (fun k hk => b8.block k (hK k hk)), Nat.le_trans hz b8.size⟩, by simp [intOf] <;> omega⟩
        · obtain rfl : p = l := by omega
          have hplI : ¬ (p : Int) < (p : Int) := by omega
          have t1 : wr.cell? ⟨tb, 1, none⟩ = some (.slice a p cap) := cell_keep (HT.out.cell 1) HKP.out hKt
          go_wp2_with fail
          exact ⟨⟨p + 1, c, by omega, by simp, HN1.out, HN2.out, HJJ.out, by rw [show min (p + 1) p = p by omega]; exact HLC5.out.sb HX5.out, HKP.out, hz⟩, by simp [intOf] <;> omega⟩
    · obtain rfl : p = l + 1 := by omega
      have hcn := nD rfl
      have t1 : wr.cell? ⟨tb, 1, none⟩ = some (.slice a l cap) := cell_keep (HT.out.cell 1) hk hKt
      have hpl : ¬ ((l + 1 : Nat) : Int) ≤ (l : Int) := by omega
      have hpl2 : ¬ l + 1 ≤ l := by omega
      have HJJ := Lib.hid (show J (l / ev + 1) wr by rw [← hcn]; exact hj)
      clear nA nB nC nD hcn hj hS hk hc1 hc2
      go_wp2_with fail
      refine bodyPost_end (results_none rfl _ _ _) rfl ⟨⟨_, rfl⟩, .inl HJJ.out⟩
end Go.Proofs.Ytlhoffhagfhbcaa.Spe
namespace Go.Proofs.Ytlhoffhagfhbcaa.Spe
open Go.RowKit Go.Shelf Go.Sort Go.Proofs.Ytlhoffhagfhbcaa.Byt Go.Proofs.Ytlhoffhagfhbcaa.Gm Go.Proofs.Ytlhoffhagfhbcaa.RingE Go.Proofs.Ytlhoffhagfhbcaa.Num Go.Proofs.Ytlhoffhagfhbcaa.Eql
set_option linter.all false
attribute [local go_sem] Oper.semAt_some

set_option maxRecDepth 100000 in
set_option maxHeartbeats 1000000 in
theorem tsums_any (w : World) (sd : Nat) (a : Option Addr) (len cap : Nat) (fr : Int) :
    Calls Try.prog 54 #[.agg #[.int .u32 (sd : Int), .slice a len cap], .int .i64 fr] w fun e w' => e = .returned (.func (.func 100) #[] #[.pointer (some ⟨w.heap.size + 1, 0, none⟩), .pointer (some ⟨w.heap.size, 0, none⟩)]) ∧ (w.alloc (.cells #[.int .u32 (sd : Int), .slice a len cap] 49)).alloc (.cells #[.int .i64 fr] 3) = w' := by
  have hmf : ∀ (fn : Fn) (first cap : Array Value) (w : World), (Instr.makeFunc fn first cap).run Try.prog w = .ok (.func fn first cap) w := fun _ _ _ _ => rfl
  go_enter Try.func54, Try.ntmps54
  go_wp2
  go_ret
  exact ⟨rfl, rfl⟩
set_option maxRecDepth 100000 in
set_option maxHeartbeats 1000000 in
theorem sums0_in (lo eb tb : Nat) (fr : Int) (hfr : fr < 1) (W : World) (he : Blk W eb 3 #[.int .i64 fr]) (R : World → Prop) (hR : R W) :
    CallsIn Fence.wide 8 Try.prog 100 #[.func (.yield lo) #[] #[], .pointer (some ⟨eb, 0, none⟩), .pointer (some ⟨tb, 0, none⟩)] W fun e W' => (∃ v, e = .returned v) ∧ R W' := by
  refine (callsIn_wide (n := 8)).2 ?_
  have e0 : W.cell? ⟨eb, 0, none⟩ = some (.int .i64 fr) := he.cell 0
  go_enter Try.func100, Try.ntmps100
  go_wp2_with fail
  refine bodyPost_ret (results_none rfl _ _ _) rfl ⟨⟨_, rfl⟩, hR⟩
theorem ss_results (tmps : Array Value) (W : World) (g : Nat) (b : Bool) (h : Blk W g 4 #[.bool b]) (h6 : tmps.getD 6 undef = .pointer (some ⟨g, 0, none⟩)) :
    (results Try.f13 tmps).run Try.prog W = .ok (.bool b) W := by
  have k0 : W.cell? ⟨g, 0, none⟩ = some (.bool b) := Blk.cell h 0
  have e6 : tmps[6]?.getD undef = .pointer (some ⟨g, 0, none⟩) := by simpa using h6
  simp [results, Try.results13, go_sem, e6, k0]

set_option maxRecDepth 100000 in
set_option maxHeartbeats 8000000 in
theorem states_law (w : World) (sd so : Nat) (hs : sd < 4294967296) (a b : Option Addr) (ca cb : Nat) (ls os : List (Nat × Nat)) (fr : Int) (hra : InRow w a ls) (hrb : InRow w b os) (hla : ls.length ≤ ca) (hlb : os.length ≤ cb) (hca : ca ≤ 9223372036854775807) (hcb : cb ≤ 9223372036854775807) (hna : a = none → ca = 0) (hnb : b = none → cb = 0) (hf0 : -9223372036854775808 ≤ fr) (hf1 : fr ≤ 9223372036854775807) :
    Calls Try.prog 13 #[.agg #[.int .u32 (sd : Int), .slice a ls.length ca], .agg #[.int .u32 (so : Int), .slice b os.length cb], .int .i64 fr] w fun e w' => e = .returned (.bool true) ∧ Below w.heap.size w w' := by
  refine calls_of_wp_marks 9 Try.func13 rfl ?_
  simp only [Try.ntmps13, List.size_toArray, List.length_cons, List.length_nil, Nat.reduceAdd, Nat.reduceSub, Array.replicate_succ, Array.replicate_zero, List.push_toArray, List.append_toArray, List.nil_append, List.cons_append]
  obtain ⟨l, hll⟩ : ∃ l, ls.length = l := ⟨_, rfl⟩
  obtain ⟨m, hmm⟩ : ∃ m, os.length = m := ⟨_, rfl⟩
  rw [hll, hmm]
  rw [hll] at hla
  rw [hmm] at hlb
  obtain ⟨z, hz⟩ : ∃ z, z = w.heap.size := ⟨_, rfl⟩
  obtain ⟨W1, hW1⟩ : ∃ W1, W1 = (((w.alloc (.cells #[.int .u32 (sd : Int), .slice a l ca] 49)).alloc (.cells #[.int .u32 (so : Int), .slice b m cb] 49)).alloc (.cells #[.int .i64 fr] 3)).alloc (.cells #[.bool false] 4) := ⟨_, rfl⟩
  have hX : Blk W1 z 49 #[.int .u32 (sd : Int), .slice a l ca] := by rw [hW1, hz]; exact (((Blk.new w _ _).alloc _).alloc _).alloc _
  have hY : Blk W1 (z + 1) 49 #[.int .u32 (so : Int), .slice b m cb] := by
    rw [hW1, hz]
    have := ((Blk.new (w.alloc (.cells #[.int .u32 (sd : Int), .slice a l ca] 49)) 49 #[.int .u32 (so : Int), .slice b m cb]).alloc (.cells #[.int .i64 fr] 3)).alloc (.cells #[.bool false] 4)
    simpa using this
  have hF : Blk W1 (z + 2) 3 #[.int .i64 fr] := by
    rw [hW1, hz]
    have := (Blk.new ((w.alloc (.cells #[.int .u32 (sd : Int), .slice a l ca] 49)).alloc (.cells #[.int .u32 (so : Int), .slice b m cb] 49)) 3 #[.int .i64 fr]).alloc (.cells #[.bool false] 4)
    simpa using this
  have hR : Blk W1 (z + 3) 4 #[.bool false] := by
    rw [hW1, hz]
    have := Blk.new (((w.alloc (.cells #[.int .u32 (sd : Int), .slice a l ca] 49)).alloc (.cells #[.int .u32 (so : Int), .slice b m cb] 49)).alloc (.cells #[.int .i64 fr] 3)) 4 #[.bool false]
    simpa using this
  have hB : Below z w W1 := by rw [hW1, hz]; exact ((((Below.refl _ w).alloc (Nat.le_refl _) _).alloc (by simp) _).alloc (by simp; omega) _).alloc (by simp; omega) _
  have hz1 : W1.heap.size = z + 4 := by rw [hW1, hz]; simp
  obtain ⟨zo, hzo⟩ : ∃ zo, zo = z + 1 := ⟨_, rfl⟩
  obtain ⟨zf, hzf⟩ : ∃ zf, zf = z + 2 := ⟨_, rfl⟩
  obtain ⟨zr, hzr⟩ : ∃ zr, zr = z + 3 := ⟨_, rfl⟩
  rw [← hzo] at hY
  rw [← hzf] at hF
  rw [← hzr] at hR
  have HX := Lib.hid hX
  have HYY := Lib.hid hY
  have HF := Lib.hid hF
  have HR := Lib.hid hR
  have HB := Lib.hid hB
  have HLL := Lib.hid hll
  have HMM := Lib.hid hmm
  have hrz : InRow W1 a ls := by rw [hz] at hB; exact inRow_pre hra hB
  have hrz2 : InRow W1 b os := by rw [hz] at hB; exact inRow_pre hrb hB
  have HRA := Lib.hid hrz
  have HBA := Lib.hid (show 0 < ls.length → ∀ b, a.map (·.block) = some b → b < z from by rw [hz]; exact inRow_lt hra)
  have HRB := Lib.hid hrz2
  have HZ := Lib.hid hz
  have HZS := Lib.hid (show z < W1.heap.size ∧ zo < W1.heap.size ∧ zf < W1.heap.size ∧ zr < W1.heap.size ∧ z < zr ∧ zr + 1 = W1.heap.size ∧ zf < zr ∧ zo < zr by omega)
  have pA := Lib.hid (awake31 W1)
  clear hX hY hF hR hB hll hmm hra hrb hrz hrz2
  go_upto_region 1 with fail
  rw [← hW1, ← hz, show z + 1 + 1 + 1 = zr by omega, show z + 1 + 1 = zf by omega, ← hzo]
  clear hW1 hz hzo hzf hzr hz1
  go_wp2_with fail
  refine pA.out.mono ?_
  rintro e w2 ⟨rfl, b2⟩
  have HB2 := Lib.hid b2
  clear pA b2
  have hcl : ∀ V : World, Below W1.heap.size W1 V → (V.cell? ⟨z, 0, none⟩ = some (.int .u32 (sd : Int)) ∧ V.cell? ⟨z, 1, none⟩ = some (.slice a l ca) ∧ V.cell? ⟨zo, 0, none⟩ = some (.int .u32 (so : Int)) ∧ V.cell? ⟨zo, 1, none⟩ = some (.slice b m cb) ∧ V.cell? ⟨zf, 0, none⟩ = some (.int .i64 fr)) ∧ (V.cell? ⟨zr, 0, none⟩ = some (.bool false) ∧ V.frozen? ⟨zr, 0, none⟩ = false) := fun V hb => by
    have hx := HX.out.below hb HZS.out.1
    have hy := HYY.out.below hb HZS.out.2.1
    have hf := HF.out.below hb HZS.out.2.2.1
    have hr := HR.out.below hb HZS.out.2.2.2.1
    exact ⟨⟨hx.cell 0, hx.cell 1, hy.cell 0, hy.cell 1, hf.cell 0⟩, hr.cell 0, hr.frozen 0⟩
  have HCL := Lib.hid hcl
  have hshort : ∀ V : World, Below W1.heap.size W1 V → Blk (V.setCell ⟨zr, 0, none⟩ (.bool true)) zr 4 #[.bool true] ∧ Below w.heap.size w (V.setCell ⟨zr, 0, none⟩ (.bool true)) := fun V hb => by
    have hzs := HZS.out
    refine ⟨Blk.set_ (HR.out.below hb hzs.2.2.2.1) 0 _, ?_⟩
    rw [← HZ.out]
    exact (HB.out.trans (hb.mono (by omega))).setCell (p := ⟨zr, 0, none⟩) (by show z ≤ zr; omega) _
  have HSH := Lib.hid hshort
  clear hshort hcl
  obtain ⟨⟨x20, x21, y20, y21, f20⟩, r20, r2f⟩ := HCL.out w2 HB2.out
  by_cases h1 : 200 < l
  · have h1' : (200 : Int) < (l : Int) := by omega
    go_wp2_with fail
    exact ⟨.bool true, ss_results _ _ zr true (HSH.out _ HB2.out).1 (by rfl), rfl, (HSH.out _ HB2.out).2⟩
  have h1' : decide ((200 : Int) < (l : Int)) = false := by simp; omega
  have h1n : decide (200 < l) = false := by simp; omega
  by_cases h2 : 200 < m
  · have h2' : (200 : Int) < (m : Int) := by omega
    go_wp2_with fail
    exact ⟨.bool true, ss_results _ _ zr true (HSH.out _ HB2.out).1 (by rfl), rfl, (HSH.out _ HB2.out).2⟩
  have h2' : ¬ (200 : Int) < (m : Int) := by omega
  have hl2 : l ≤ 20000 := by omega
  have hm2 : m ≤ 20000 := by omega
  obtain ⟨D, LD⟩ := let_of (stAt sd ls fr)
  have hI : Inv (0 + ((nOf fr ls.length : Nat) : Int)) (0 + 8 * ((nOf fr ls.length : Nat) : Int)) (stAt sd ls fr) := (Inv.new (sd : Int) (by omega) (by omega)).play ls _
  have hnl := nOf_le fr ls.length
  have hll := HLL.out
  have wf := hI.wf (by omega) (by omega) (by omega)
  have hq : ∀ W, (Op.equalIn 10000 31 (.agg D) (.agg D)).run Try.prog W = .ok true W := fun W => by
    rw [LD.eq]; exact st_same W wf wf rfl
  have pT' : ∀ W, InRow W a ls → Calls Try.prog 51 #[.agg #[.int .u32 (sd : Int), .slice a l ca], .int .i64 fr] W fun e w' => e = .returned (.agg D) ∧ Below W.heap.size W w' := fun W h => by
    have := tstate_any W sd hs a ca ls fr h (by omega) (by omega) hca hna
    unfold stV at this
    rw [HLL.out, ← LD.eq] at this
    exact this
  have pU' : ∀ W, InRow W a ls → Calls Try.prog 52 #[.int .u32 (sd : Int), .slice a l ca, .int .i64 fr] W fun e w' => e = .returned (.agg D) ∧ Below W.heap.size W w' := fun W h => by
    have := rstate_any W sd hs a ca ls fr h (by omega) (by omega) hca hna
    unfold stV at this
    rw [HLL.out, ← LD.eq] at this
    exact this
  have pT := Lib.hid pT'
  have pU := Lib.hid pU'
  have hqD := hq
  have hg := guard33
  have hds := LD.size
  have hb2d : Below W1.heap.size W1 w2.drew := HB2.out.drew
  obtain ⟨⟨d0, d1, -, -, d4⟩, -, -⟩ := HCL.out w2.drew hb2d
  clear pT' pU' hq LD hI hnl hll wf h1 h2
  go_upto_region 5 with fail
  clear x20 x21 y20 y21 f20 r20 r2f
  go_cut [33] from 24 to 33 (fun bv wx => bv = .bool false ∧ Below W1.heap.size W1 wx)
  case first =>
    go_region_held3 (fun W => W.cell? ⟨z, 0, none⟩ = some (.int .u32 (sd : Int)) ∧ W.cell? ⟨z, 1, none⟩ = some (.slice a l ca) ∧ W.cell? ⟨zf, 0, none⟩ = some (.int .i64 fr)) (first | exact ⟨d0, d1, d4⟩ | exact kA | exact kB | fail "no keep")
      (first
        | (go_at_call 51; (with_reducible refine (pT.out _ (inRow_pre HRA.out hb2d)).mono ?_); rintro e wA ⟨rfl, bA⟩; have BA := hb2d.trans (bA.mono hb2d.size); have hcA := HCL.out _ BA; have kA : wA.cell? ⟨z, 0, none⟩ = some (.int .u32 (sd : Int)) ∧ wA.cell? ⟨z, 1, none⟩ = some (.slice a l ca) ∧ wA.cell? ⟨zf, 0, none⟩ = some (.int .i64 fr) := ⟨hcA.1.1, hcA.1.2.1, hcA.1.2.2.2.2⟩)
        | (go_at_call 52; (with_reducible refine (pU.out _ (inRow_pre HRA.out BA)).mono ?_); rintro e wB ⟨rfl, bB⟩; have BB := BA.trans (bB.mono BA.size); have hcB := HCL.out _ BB; have kB : wB.cell? ⟨z, 0, none⟩ = some (.int .u32 (sd : Int)) ∧ wB.cell? ⟨z, 1, none⟩ = some (.slice a l ca) ∧ wB.cell? ⟨zf, 0, none⟩ = some (.int .i64 fr) := ⟨hcB.1.1, hcB.1.2.1, hcB.1.2.2.2.2⟩)
        | fail "no arm")
    all_goals
      go_wp2_with fail
      go_meet
      exact ⟨rfl, BB⟩
  case rest =>
    obtain ⟨rfl, hBc⟩ := hcut
    obtain ⟨⟨x0, x1, y0, y1, f0⟩, r0, rf⟩ := HCL.out wc hBc
    have hcut := cut_any wc sd so a b ca cb ls os (inRow_pre HRA.out hBc) (inRow_pre HRB.out hBc) (by rw [HLL.out]; exact hl2) (by rw [HMM.out]; exact hm2)
    rw [HLL.out, HMM.out] at hcut
    have pK := Lib.hid hcut
    clear hcut pT pU hqD hg hds hb2d d0 d1 d4
    go_wp2_with fail
    refine pK.out.mono ?_
    rintro e w5 ⟨k, rfl, hk1, hk2, heq, hne, b5⟩
    have hB5 := hBc.trans (b5.mono hBc.size)
    have HB5 := Lib.hid hB5
    obtain ⟨⟨x50, x51, y50, y51, f50⟩, r50, r5f⟩ := HCL.out w5 hB5
    have htk : ls.take k = os.take k := by
      refine List.ext_getElem? fun j => ?_
      rw [List.getElem?_take, List.getElem?_take]
      by_cases hj : j < k
      · rw [if_pos hj, if_pos hj, heq j hj]
      · rw [if_neg hj, if_neg hj]
    have hlt1 : (ls.take k).length = k := by rw [List.length_take, HLL.out]; omega
    have hlt2 : (os.take k).length = k := by rw [List.length_take, HMM.out]; omega
    have cE := regrown w5 (v := .bool true) (fun W hb => by
      have hbW := HB5.out.trans (hb.mono HB5.out.size)
      have := same31_any W a b ca cb (ls.take k) (os.take k) (inRow_take (inRow_pre HRA.out hbW) k) (inRow_take (inRow_pre HRB.out hbW) k) (by rw [hlt1]; omega) (by rw [hlt2]; omega)
      rw [hlt1, hlt2, decide_eq_true htk] at this
      exact this)
    have q0 := cell_regrown x51
    have q1 := cell_regrown y51
    have HNE := Lib.hid hne
    have k0 : ¬ (k : Int) < 0 := by omega
    have k0' : decide ((k : Int) < 0) = false := by simp
    have k1 : ¬ (l : Int) < (k : Int) := by omega
    have k1n : ¬ l < k := by omega
    have k2 : ¬ (m : Int) < (k : Int) := by omega
    have k2n : ¬ m < k := by omega
    have k3 : (0 : Int) ≤ (k : Int) := by omega
    have k4 : (k : Int) ≤ (l : Int) := by omega
    have k5 : (k : Int) ≤ (ca : Int) := by omega
    have k6 : (k : Int) ≤ (m : Int) := by omega
    have k7 : (k : Int) ≤ (cb : Int) := by omega
    clear b5 hB5 htk hlt1 hlt2 heq hne pK x0 x1 y0 y1 f0 r0 rf x50 x51 y50 y51 f50 r50 r5f
    go_upto_region 8 with fail
    go_cut [91] from 37 to 91 (fun bv wx => bv = .bool false ∧ Below W1.heap.size W1 wx)
    case first =>
      by_cases c1 : k < l
      · have c1' : (k : Int) < (l : Int) := by omega
        by_cases c2 : k < m
        · have c2' : (k : Int) < (m : Int) := by omega
          have ha5 := inRow_pre HRA.out HB5.out
          have hb5 := inRow_pre HRB.out HB5.out
          obtain ⟨ga, oa, rfl, hga, cca⟩ := ha5.2 (by rw [HLL.out]; omega)
          obtain ⟨gb, ob, rfl, hgb, ccb⟩ := hb5.2 (by rw [HMM.out]; omega)
          obtain ⟨x, hx⟩ : ∃ x, ls[k]? = some x := ⟨ls[k]'(by rw [HLL.out]; exact c1), List.getElem?_eq_getElem (by rw [HLL.out]; exact c1)⟩
          obtain ⟨y, hy⟩ : ∃ y, os[k]? = some y := ⟨os[k]'(by rw [HMM.out]; exact c2), List.getElem?_eq_getElem (by rw [HMM.out]; exact c2)⟩
          have r1 := cca k (by rw [HLL.out]; exact c1)
          have r2 := ccb k (by rw [HMM.out]; exact c2)
          obtain ⟨d0, d1⟩ := I2.inA_get hx
          obtain ⟨g0, g1⟩ := I2.inA_get hy
          rw [d0, d1] at r1
          rw [g0, g1] at r2
          have hbx := ha5.1 _ (List.mem_of_getElem? hx)
          have hby := hb5.1 _ (List.mem_of_getElem? hy)
          have hv : x ≠ y := fun e => HNE.out c1 c2 (by rw [hx, hy, e])
          have hEq0 := fun W => in_eql W _ _ hbx hby
          obtain ⟨xx0, xx1⟩ := x
          obtain ⟨yy0, yy1⟩ := y
          have hEq : ∀ W, (Op.equalIn 10000 69 (.agg #[.int .u16 (xx0 : Int), .int .u16 (xx1 : Int)]) (.agg #[.int .u16 (yy0 : Int), .int .u16 (yy1 : Int)])).run Try.prog W = .ok false W := fun W => by
            have := hEq0 W
            rw [decide_eq_false hv] at this
            exact this
          have u0 := cell_regrown r1.1
          have u1 := cell_regrown r1.2
          have u2 := cell_regrown r2.1
          have u3 := cell_regrown r2.2
          clear hEq0 hv hx hy d0 d1 g0 g1 r1 r2 cca ccb ha5 hb5
          refine wp_region_quiet_below (by kernel_rfl) (by kernel_rfl) ?_
          repeat (go_big_quiet_step (exact cE _ _))
          refine wpQuiet_nil ?_
          intro W6 hw'
          obtain ⟨⟨dq, oq⟩, rfl⟩ := hw'
          have hb6 := HB5.out.trans ((below_regrown w5 dq oq).mono HB5.out.size)
          go_wp2_with fail
          go_meet
          exact ⟨rfl, hb6⟩
        · have c2' : ¬ (k : Int) < (m : Int) := by omega
          refine wp_region_quiet_below (by kernel_rfl) (by kernel_rfl) ?_
          repeat (go_big_quiet_step (exact cE _ _))
          refine wpQuiet_nil ?_
          intro W6 hw'
          obtain ⟨⟨dq, oq⟩, rfl⟩ := hw'
          have hb6 := HB5.out.trans ((below_regrown w5 dq oq).mono HB5.out.size)
          go_wp2_with fail
          go_meet
          exact ⟨rfl, hb6⟩
      · have c1' : ¬ (k : Int) < (l : Int) := by omega
        have c1d : decide ((k : Int) < (l : Int)) = false := by simp; omega
        have c1n : decide (k < l) = false := by simp; omega
        refine wp_region_quiet_below (by kernel_rfl) (by kernel_rfl) ?_
        repeat (go_big_quiet_step (exact cE _ _))
        refine wpQuiet_nil ?_
        intro W6 hw'
        obtain ⟨⟨dq, oq⟩, rfl⟩ := hw'
        have hb6 := HB5.out.trans ((below_regrown w5 dq oq).mono HB5.out.size)
        go_wp2_with fail
        go_meet
        exact ⟨rfl, hb6⟩
    case rest =>
      obtain ⟨rfl, hBd⟩ := hcut
      clear cE q0 q1 k0 k0' k1 k1n k2 k2n k3 k4 k5 k6 k7 HNE HB5
      obtain ⟨⟨x0, x1, y0, y1, f0⟩, r0, rf⟩ := HCL.out wc hBd
      have hnf : ∀ (f : FuncId) (cs : Array Value) (W : World), Sem.run Try.prog (binOp .eql 100 (.func (.func f) #[] cs) .nilFunc) W = .ok (.bool false) W := by
        intro f cs W
        have h : ∀ d : Nat, Sem.run Try.prog (Op.equalIn (d + 1) 100 (.func (.func f) #[] cs) .nilFunc) W = .ok false W := fun d => by
          simp [Op.equalIn, run_underlying Try.underlying100, go_sem]
        have h' := h (Op.maxDepth - 1)
        simp only [binOp, Op.equal]
        rw [Sem.run_bind]
        erw [h']
        rfl
      have pS := Lib.hid (tsums_any wc sd a l ca fr)
      obtain ⟨tb, htb⟩ : ∃ tb, tb = wc.heap.size := ⟨_, rfl⟩
      obtain ⟨eb, heb⟩ : ∃ eb, eb = wc.heap.size + 1 := ⟨_, rfl⟩
      obtain ⟨nb, hnb⟩ : ∃ nb, nb = wc.heap.size + 1 + 1 := ⟨_, rfl⟩
      obtain ⟨W5, hW5⟩ : ∃ W5, W5 = ((wc.alloc (.cells #[.int .u32 (sd : Int), .slice a l ca] 49)).alloc (.cells #[.int .i64 fr] 3)).alloc (.cells #[.int .i64 0] 3) := ⟨_, rfl⟩
      have tbb : Blk W5 tb 49 #[.int .u32 (sd : Int), .slice a l ca] := by rw [hW5, htb]; exact ((Blk.new wc _ _).alloc _).alloc _
      have ebb : Blk W5 eb 3 #[.int .i64 fr] := by
        rw [hW5, heb]
        have := (Blk.new (wc.alloc (.cells #[.int .u32 (sd : Int), .slice a l ca] 49)) 3 #[.int .i64 fr]).alloc (.cells #[.int .i64 0] 3)
        simpa using this
      have nbb : Blk W5 nb 3 #[.int .i64 0] := by
        rw [hW5, hnb]
        have := Blk.new ((wc.alloc (.cells #[.int .u32 (sd : Int), .slice a l ca] 49)).alloc (.cells #[.int .i64 fr] 3)) 3 #[.int .i64 0]
        simpa using this
      have b15 : Below wc.heap.size wc W5 := by rw [hW5]; exact (((Below.refl _ wc).alloc (Nat.le_refl _) _).alloc (by simp) _).alloc (by simp; omega) _
      have hz5 : W5.heap.size = nb + 1 := by rw [hW5, hnb]; simp
      have HB5 := Lib.hid (hBd.trans (b15.mono hBd.size))
      have hcs := hBd.size
      have hzs := HZS.out
      have HZN := Lib.hid (show W1.heap.size ≤ tb ∧ tb < nb ∧ eb < nb ∧ tb ≠ eb ∧ zr < tb ∧ z < tb ∧ zr < eb by omega)
      go_upto_region 14 with (first | (refine pS.out.mono ?_; rintro e w' ⟨rfl, rfl⟩) | fail)
      clear pS hnf
      rw [← hW5, ← hnb, ← heb, ← htb]
      clear hW5 hcs htb heb hnb b15 x0 x1 y0 y1 f0 r0 rf hBd
      obtain ⟨K, hK⟩ : ∃ K : Nat → Prop, K = fun k => k < zr ∨ k = tb ∨ k = eb := ⟨_, rfl⟩
      have hKl : ∀ k, K k → k < nb := fun k hk => by
        have := HZN.out
        have := HZS.out
        rw [hK] at hk
        rcases hk with h | h | h <;> omega
      go_wp2_with fail
      refine (wpIn_wide (n := 9)).1 ?_
      have hKb : ∀ (W : World) (o : Obj), KeepT K (W5.heap.size + 2) W (W.putObj (W5.heap.size + 1) o) := fun W o =>
        ⟨fun k hk => World.putObj_heap_other (by have := hKl k hk; omega), by simp, fun k hk _ => World.putObj_heap_other (by omega)⟩
      by_cases hfr : fr < 1
      · refine' range_nat (F := Fence.wide) (n := 9) rfl (by omega) (gf := 100) (lb := #[.pointer (some ⟨eb, 0, none⟩), .pointer (some ⟨tb, 0, none⟩)]) rfl trivial (enters_of Try.func100 (by kernel_rfl) rfl)
          (encs := fun _ => #[.int .i64 0, .int .u32 0]) (Kp := KeepT K (W5.heap.size + 2)) (N := 0)
          (fun V J Jx hb hz hJ hJx hY h0 => (sums0_in (W5.heap.size + 1) eb tb fr hfr V (ebb.below hb ebb.lt) (J 0) h0).mono (fun e W' h => ⟨h.1, .inl h.2⟩))
          keepT_t hKb (fun _ => rfl)
          (fun _ W => Below nb W5 W ∧ Blk W nb 3 #[.int .i64 0]) (fun _ W => False)
          (fun s A C h hb => ⟨h.1.trans (hb.mono (by omega)), h.2.below hb (by omega)⟩) (fun s A C h hb => h) ⟨Below.refl _ _, nbb⟩ _ ?assign ?body ?done ?stop
        case assign =>
          intro l' x W K hK
          gi_wp2
          exact hK
        case body =>
          intro l' k W hI hlt
          omega
        case stop =>
          intro D k W hD hk hx
          exact hx.elim
        case done =>
          intro D W hD hI hdef
          have hz9 := HZN.out
          have hbel9 : Below W1.heap.size W1 W := HB5.out.trans (hI.1.mono (by omega))
          obtain ⟨⟨x90, x91, -, -, f90⟩, r90, r9f⟩ := HCL.out W hbel9
          have n90 : W.cell? ⟨nb, 0, none⟩ = some (.int .i64 0) := hI.2.cell 0
          have HSH9 := Lib.hid (HSH.out W hbel9)
          have hD5 := lt_of_heap hdef
          go_wp2_with fail
          have hdef' : (W.setCell ⟨zr, 0, none⟩ (.bool true)).heap[D]? = some (Obj.deferred (some [])) := (KeepsOthers.setCell W ⟨zr, 0, none⟩ (.bool true)).same D _ hdef rfl
          have hzr : zr < nb := by omega
          have hwz : w.heap.size ≤ D := Nat.le_trans (by have := HB.out.size; have := HZ.out; omega) hD
          refine ⟨by simp, .inl ⟨_, _, rfl, run_takeDeferred hdef', ?_⟩⟩
          exact ⟨.bool true, ss_results _ _ zr true ((World.putObj_heap_other (by omega)).trans HSH9.out.1) (by rfl), rfl, HSH9.out.2.trans (below_put (l := D) hwz _ _)⟩
      · obtain ⟨ev, rfl⟩ : ∃ ev : Nat, fr = (ev : Int) := ⟨fr.toNat, by omega⟩
        have hev1 : 1 ≤ ev := by omega
        have hev2 : ev ≤ 9223372036854775807 := by omega
        have hKe : K eb := by rw [hK]; exact .inr (.inr rfl)
        have hKt : K tb := by rw [hK]; exact .inr (.inl rfl)
        have hKa : 0 < ls.length → ∀ b, a.map (·.block) = some b → K b := fun h0 b hb => by rw [hK]; exact .inl (Nat.lt_trans (HBA.out h0 b hb) HZS.out.2.2.2.2.1)
        have HKL := Lib.hid hKl
        have HKE := Lib.hid hKe
        have HKT := Lib.hid hKt
        have HKA := Lib.hid hKa
        have HEV1 := Lib.hid hev1
        have HEV2 := Lib.hid hev2
        clear hKe hKt hKa hev1 hev2 hfr hf0 hf1
        obtain ⟨SS, hSS⟩ : ∃ SS : Nat → Int, SS = fun k => sumL (stB (stK sd ls (k * ev))) := ⟨_, rfl⟩
        obtain ⟨FF, hFF⟩ : ∃ FF : Nat → Int, FF = fun k => ((k * ev : Nat) : Int) := ⟨_, rfl⟩
        have henc : ∀ k, encT sd ls ev k = #[.int .i64 (FF k), .int .u32 (SS k)] := fun k => by rw [hSS, hFF]; unfold encT; exact Eq.refl _
        have HFF := Lib.hid hFF
        clear hFF
        have HENC := Lib.hid henc
        have HSS := Lib.hid hSS
        clear henc hSS
        refine' range_nat (F := Fence.wide) (n := 9) rfl (by omega) (gf := 100) (lb := #[.pointer (some ⟨eb, 0, none⟩), .pointer (some ⟨tb, 0, none⟩)]) rfl trivial (enters_of Try.func100 (by kernel_rfl) rfl)
          (encs := fun k => #[.int .i64 (FF k), .int .u32 (SS k)]) (Kp := KeepT K (W5.heap.size + 2)) (N := l / ev + 1)
          (fun V J Jx hb hz hJ hJx hY h0 => by
            have q := sumsT_in (W5.heap.size + 1) eb tb (W5.heap.size + 2) K sd ev hs a ca ls J Jx HEV1.out HEV2.out (fun k W1 hk hj => by rw [HENC.out k]; exact hY k W1 (by rw [HLL.out] at hk; exact hk) hj) V hz hJ hJx (ebb.below hb ebb.lt) (by rw [HLL.out]; exact tbb.below hb tbb.lt) (inRow_pre (inRow_pre HRA.out HB5.out) hb) HKE.out HKT.out HKA.out (fun k hk => by have := HKL.out k hk; omega) (by rw [HLL.out]; exact hl2) h0
            rw [HLL.out] at q
            exact q)
          keepT_t hKb (fun _ => rfl)
          (fun k W => Below nb W5 W ∧ Blk W nb 3 #[.int .i64 ((k * ev : Nat) : Int)]) (fun _ W => Blk W zr 4 #[.bool true] ∧ Below w.heap.size w W)
          (fun s A C h hb => ⟨h.1.trans (hb.mono (by omega)), h.2.below hb (by omega)⟩) (fun s A C h hb => ⟨h.1.below hb (by have := HZN.out; omega), h.2.trans (hb.mono (by have := HB.out.size; have := HZ.out; have := HZN.out; have := HZS.out; omega))⟩) ⟨Below.refl _ _, by simpa using nbb⟩ _ ?assign ?body ?done ?stop
        case assign =>
          intro l' x W K2 hK2
          gi_wp2
          exact hK2
        case stop =>
          intro D k W hD hk hx hdef
          refine wpIn_wide.2 ?_
          go_wp2
          have hz9 := HZN.out
          have hD5 := lt_of_heap hdef
          have hwz : w.heap.size ≤ D := Nat.le_trans (by have := HB.out.size; have := HZ.out; have := HZS.out; omega) hD
          refine ⟨by simp, .inl ⟨_, _, rfl, run_takeDeferred hdef, ?_⟩⟩
          exact ⟨.bool true, ss_results _ _ zr true ((World.putObj_heap_other (by omega)).trans hx.1) (by rfl), rfl, hx.2.trans (below_put (l := D) hwz _ _)⟩
        case done =>
          intro D W hD hI hdef
          have hNl : l < (l / ev + 1) * ev := by
            rw [Nat.succ_mul]
            have := Nat.div_add_mod l ev
            have h2 := Nat.mod_lt l (show 0 < ev by have := HEV1.out; omega)
            rw [Nat.mul_comm ev (l / ev)] at this
            omega
          obtain ⟨Q, hQ⟩ : ∃ Q, Q = (l / ev + 1) * ev := ⟨_, rfl⟩
          rw [← hQ] at hI hNl
          have hz9 := HZN.out
          have hbel9 : Below W1.heap.size W1 W := HB5.out.trans (hI.1.mono (by omega))
          obtain ⟨⟨x90, x91, -, -, f90⟩, r90, r9f⟩ := HCL.out W hbel9
          have n90 : W.cell? ⟨nb, 0, none⟩ = some (.int .i64 (Q : Int)) := hI.2.cell 0
          have HSH9 := Lib.hid (HSH.out W hbel9)
          have hD5 := lt_of_heap hdef
          have hev1 := HEV1.out
          have g1 : decide ((ev : Int) < 1) = false := by simp; omega
          have g2 : (1 : Int) ≤ (ev : Int) := by omega
          clear hev1
          have g3 : (l : Int) < (Q : Int) := by omega
          clear hQ
          go_wp2_with fail
          have hdef' : (W.setCell ⟨zr, 0, none⟩ (.bool true)).heap[D]? = some (Obj.deferred (some [])) := (KeepsOthers.setCell W ⟨zr, 0, none⟩ (.bool true)).same D _ hdef rfl
          have hzr : zr < nb := by omega
          have hwz : w.heap.size ≤ D := Nat.le_trans (by have := HB.out.size; have := HZ.out; omega) hD
          refine ⟨by simp, .inl ⟨_, _, rfl, run_takeDeferred hdef', ?_⟩⟩
          exact ⟨.bool true, ss_results _ _ zr true ((World.putObj_heap_other (by omega)).trans HSH9.out.1) (by rfl), rfl, HSH9.out.2.trans (below_put (l := D) hwz _ _)⟩
        case body =>
          intro l' k W hI hlt
          obtain ⟨p, hp⟩ : ∃ p, p = k * ev := ⟨_, rfl⟩
          rw [← hp] at hI
          have hev1 := HEV1.out
          have hpl : p ≤ l := by rw [hp]; exact (Nat.le_div_iff_mul_le (show 0 < ev by omega)).1 (by omega)
          have hFF : FF k = (p : Int) := by
            rw [HFF.out]
            show ((k * ev : Nat) : Int) = _
            rw [hp]
          have hS0 : SS k = sumL (stB (stK sd ls p)) := by
            rw [HSS.out]
            show sumL (stB (stK sd ls (k * ev))) = _
            rw [hp]
          obtain ⟨S, hS⟩ : ∃ S, S = SS k := ⟨_, rfl⟩
          rw [hFF, ← hS]
          rw [← hS] at hS0
          obtain ⟨D5, LD5⟩ := let_of (stK sd ls p)
          have hno : nOf (p : Int) ls.length = p := by rw [HLL.out]; unfold nOf clampV; omega
          have hst : stAt sd ls (p : Int) = stK sd ls p := by unfold stAt stK; rw [hno]
          have hwf := ((Inv.new (sd : Int) (by omega) (by omega)).play ls p).wf (by omega) (by omega) (by omega)
          have pRS' : ∀ V, InRow V a ls → Calls Try.prog 52 #[.int .u32 (sd : Int), .slice a l ca, .int .i64 (p : Int)] V fun e w' => e = .returned (.agg D5) ∧ Below V.heap.size V w' := fun V h => by
            have := rstate_any V sd hs a ca ls (p : Int) h (by rw [HLL.out]; omega) (by rw [HLL.out]; omega) hca hna
            unfold stV at this
            rw [hst, HLL.out, ← LD5.eq] at this
            exact this
          have pSum' : ∀ V, Calls Try.prog 34 #[.agg D5] V fun e w' => e = .returned (.int .u32 S) ∧ Below V.heap.size V w' := fun V => by
            have := rsum_any V (stK sd ls p) hwf
            unfold stV at this
            rw [← LD5.eq, ← hS0] at this
            exact this
          have pRS := Lib.hid pRS'
          have pSum := Lib.hid pSum'
          have hz9 := HZN.out
          have hbel := HB5.out.trans (hI.1.mono (show W1.heap.size ≤ nb by omega))
          obtain ⟨⟨x90, x91, -, -, f90⟩, r90, r9f⟩ := HCL.out W hbel
          have n90 : W.cell? ⟨nb, 0, none⟩ = some (.int .i64 (p : Int)) := hI.2.cell 0
          have HBW := Lib.hid hbel
          have HIB := Lib.hid hI.1
          have HNB := Lib.hid hI.2
          have HINW := Lib.hid (inRow_pre HRA.out hbel)
          have g1 : decide ((ev : Int) < 1) = false := by simp; omega
          have g3 : ¬ (l : Int) < (p : Int) := by omega
          have g3n : ¬ l < p := by omega
          have HP := Lib.hid hp
          have hW5 := hI.1.size
          by_cases hbig : 1099511627776 < ev
          · have hbig' : (1099511627776 : Int) < (ev : Int) := by omega
            have hp0 : p = 0 := by
              rcases Nat.eq_zero_or_pos k with h0 | h0
              · rw [hp, h0, Nat.zero_mul]
              · have := Nat.le_mul_of_pos_left ev h0
                omega
            have hp1 : ((p : Int) == 0) = true := by simp [hp0]
            clear hp hpl hFF hS0 hS LD5 hno hst hwf pRS' pSum' hbel hI hp0 hev1
            gi_wp2_with (first
              | (refine And.intro (show Fence.wide.fn _ from trivial) ?_; gi_at_call 52; refine (CallsIn.inRound l' ((callsIn_wide (n := _)).2 (pRS.out _ HINW.out))).mono ?_; rintro e w6 ⟨rfl, b6⟩)
              | (refine And.intro (show Fence.wide.fn _ from trivial) ?_; gi_at_call 34; refine (CallsIn.inRound l' ((callsIn_wide (n := _)).2 (pSum.out _))).mono ?_; rintro e w7 ⟨rfl, b7⟩; have HB7 := Lib.hid (b6.trans (b7.mono b6.size)); obtain ⟨⟨-, -, -, -, f70⟩, r70, r7f⟩ := HCL.out w7 (HBW.out.trans (HB7.out.mono HBW.out.size)); have hn7 := HNB.out.below HB7.out HNB.out.lt; have n70 := hn7.cell 0; have n7f := hn7.frozen 0)
              | fail)
            have hKz : ¬ K zr := by rw [hK]; omega
            have hs7 := HB7.out.size
            have h9 := HSH.out w7 (HBW.out.trans (HB7.out.mono HBW.out.size))
            exact ⟨(below_from HB7.out).trans ((KeepsOthers.setCell _ _ _).from _), ⟨fun k2 hk2 => (Below.heap_setCell w7 ⟨zr, 0, none⟩ _ k2 (fun e => hKz (by have e2 : k2 = zr := e; rw [← e2]; exact hk2))).trans (HB7.out.block k2 (by have := HKL.out k2 hk2; omega)), by simpa using hs7, fun k2 hB2 hlt2 => (Below.heap_setCell w7 ⟨zr, 0, none⟩ _ k2 (by show k2 ≠ zr; omega)).trans (HB7.out.block k2 hlt2)⟩, h9.1, h9.2⟩
          · have hbig' : ¬ (1099511627776 : Int) < (ev : Int) := by omega
            have hnx : (k + 1) * ev = p + ev := by rw [Nat.succ_mul, hp]
            have hwr : IntKind.i64.wrap ((p : Int) + (ev : Int)) = (p : Int) + (ev : Int) := IntWalk.i64_in _ (by omega)
            have HNX := Lib.hid hnx
            clear hp hpl hFF hS0 hS LD5 hno hst hwf pRS' pSum' hbel hI hnx hev1
            gi_wp2_with (first
              | (refine And.intro (show Fence.wide.fn _ from trivial) ?_; gi_at_call 52; refine (CallsIn.inRound l' ((callsIn_wide (n := _)).2 (pRS.out _ HINW.out))).mono ?_; rintro e w6 ⟨rfl, b6⟩)
              | (refine And.intro (show Fence.wide.fn _ from trivial) ?_; gi_at_call 34; refine (CallsIn.inRound l' ((callsIn_wide (n := _)).2 (pSum.out _))).mono ?_; rintro e w7 ⟨rfl, b7⟩; have HB7 := Lib.hid (b6.trans (b7.mono b6.size)); obtain ⟨⟨-, -, -, -, f70⟩, r70, r7f⟩ := HCL.out w7 (HBW.out.trans (HB7.out.mono HBW.out.size)); have hn7 := HNB.out.below HB7.out HNB.out.lt; have n70 := hn7.cell 0; have n7f := hn7.frozen 0)
              | fail)
            have hs7 := HB7.out.size
            have hset := Blk.set_ hn7 0 (.int .i64 ((p : Int) + (ev : Int)))
            have hfin : Blk (w7.setCell ⟨nb, 0, none⟩ (.int .i64 ((p : Int) + (ev : Int)))) nb 3 #[.int .i64 (((k + 1) * ev : Nat) : Int)] := by
              rw [HNX.out, Int.natCast_add]
              exact hset
            exact ⟨(below_from HB7.out).trans ((KeepsOthers.setCell _ _ _).from _), ⟨fun k2 hk2 => (Below.heap_setCell w7 ⟨nb, 0, none⟩ _ k2 (by have := HKL.out k2 hk2; show k2 ≠ nb; omega)).trans (HB7.out.block k2 (by have := HKL.out k2 hk2; omega)), by simpa using hs7, fun k2 hB2 hlt2 => (Below.heap_setCell w7 ⟨nb, 0, none⟩ _ k2 (by show k2 ≠ nb; omega)).trans (HB7.out.block k2 hlt2)⟩, (HIB.out.trans (HB7.out.mono (by omega))).setCell (p := ⟨nb, 0, none⟩) (Nat.le_refl _) _, hfin⟩
end Go.Proofs.Ytlhoffhagfhbcaa.Spe
