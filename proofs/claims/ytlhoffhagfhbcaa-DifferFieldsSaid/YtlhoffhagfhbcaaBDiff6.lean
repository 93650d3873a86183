/-
  Texts joined: Gnew, Gawake, Gbytes. No condition.
-/
import Derived.Test.YtlhoffhagfhbcaaBDiff5
namespace Go.Proofs.Ytlhoffhagfhbcaa.Gm
open Go.RowKit Go.Sort Go.Proofs.Ytlhoffhagfhbcaa.Num
set_option linter.all false

/-- A block stored whole, as an equation that the walk rewrites by. -/
theorem store_run {P : Program} (w : World) (g : Nat) (t : TypeId) (old : Array Value) (cells : List Value) (hg : Blk w g t old) (hs : old.size = cells.length) (h1 : ∀ v ∈ cells, v.oneCell' = true) :
    ∃ w', (storeCells ⟨g, 0, none⟩ cells).run P w = .ok () w' ∧ Blk w' g t cells.toArray ∧ Touch (fun k => k = g) w w' := by
  have := run_storeCells_from (P := P) g t cells 0 old w hg (by omega) h1
  refine ⟨_, this, ?_, touch_setRow w g _⟩
  have e : (old.toList.take 0 ++ cells).toArray = cells.toArray := by simp
  rw [e]
  exact hg.setRow _
def bornF (seed : Int) : Nat → F
  | 0 => put zF 1 seed
  | i + 1 => setB (bornF seed i) (2 + i * 7) (bornB i)
theorem newF_eq (seed : Int) : newF seed = bornF seed 2 := rfl
/-- A state's cells as a letter: what the walk need know. -/
structure Let (C : Array Value) (f : F) : Prop where
  eq : C = stA f
  size : C.size = 66
  one : C.all (·.oneCell') = true
  info : (Try.prog.info? 31).map (·.size) = some C.size
theorem let_of (f : F) : ∃ C, Let C f := ⟨_, rfl, stA_size f, stA_one f, infoStf f⟩
theorem Let.blk {C : Array Value} {f : F} {w : World} {g : Nat} {t : TypeId} (h : Let C f) (hS : SB w g t f) : Blk w g t C := by rw [h.eq]; exact hS
theorem Let.sb {C : Array Value} {f : F} {w : World} {g : Nat} {t : TypeId} (h : Let C f) (hS : Blk w g t C) : SB w g t f := by rw [h.eq] at hS; exact hS

set_option maxRecDepth 100000 in
set_option maxHeartbeats 4000000 in
theorem new_any (w : World) (seed : Int) (h0 : 0 ≤ seed) (h1 : seed < 4294967296) :
    Calls Try.prog 35 #[.int .u32 seed] w fun e w' => e = .returned (stV (newF seed)) ∧ Below w.heap.size w w' := by
  obtain ⟨W1, hW1⟩ : ∃ W1, W1 = w.alloc (.cells Try.zeroCells31 31) := ⟨_, rfl⟩
  have hR : Blk W1 w.heap.size 31 Try.zeroCells31 := by rw [hW1]; exact Blk.new _ _ _
  have hB1 : Below w.heap.size w W1 := by rw [hW1]; exact (Below.refl _ w).alloc (Nat.le_refl _) _
  have hs1 : W1.heap.size = w.heap.size + 1 := by rw [hW1]; simp
  have hR2 := hR.alloc (.cells Try.zeroCells31 31)
  have hX2 : Blk (W1.alloc (.cells Try.zeroCells31 31)) W1.heap.size 31 Try.zeroCells31 := Blk.new _ _ _
  have hB2 : Below w.heap.size w (W1.alloc (.cells Try.zeroCells31 31)) := hB1.alloc (by omega) _
  obtain ⟨C, hC⟩ : ∃ C, C = Try.zeroCells31.setIfInBounds 1 (.int .u32 seed) := ⟨_, rfl⟩
  have LC : Let C (put zF 1 seed) := by
    have e : C = stA (put zF 1 seed) := by rw [hC, ← stA_zero]; exact stA_put zF (by omega) seed
    rw [e]
    exact ⟨rfl, stA_size _, stA_one _, infoStf _⟩
  have hz66 : Try.zeroCells31.size = 66 := by rw [← stA_zero]; exact stA_size _
  have hone := LC.one
  have hinf := LC.info
  have LC' := Lib.hid LC
  have HC := Lib.hid hC.symm
  have HINF := Lib.hid hinf
  clear hinf
  have HS1 := Lib.hid hs1
  clear hs1 LC hB1 hR hC
  go_enter Try.func35, Try.ntmps35
  go_upto_region 1 with fail
  rw [← hW1]
  clear hW1
  obtain ⟨W3, hrun, hX3, hT3⟩ := store_run (P := Try.prog) _ W1.heap.size _ _ (Try.zeroCells31.toList.set 1 (.int .u32 seed)) hX2 (by simp) (fun v hv => (Array.all_eq_true_iff_forall_mem.1 hone) v (by rw [← HC.out, ← Array.mem_toList_iff, Array.toList_setIfInBounds]; exact hv))
  have hX4 : Blk W3 W1.heap.size 31 C := by
    have e : (Try.zeroCells31.toList.set 1 (.int .u32 seed)).toArray = C := by rw [← HC.out]; apply Array.ext'; simp
    rw [← e]
    exact hX3
  have hR3 : Blk W3 w.heap.size 31 Try.zeroCells31 := hR2.touch hT3 (by have := HS1.out; omega)
  have hB3 : Below w.heap.size w W3 := hB2.trans (hT3.below hB2.size (fun k hk => by have := HS1.out; omega))
  clear hX3 hX2 hR2 hT3 hB2 hone
  go_upto_region 2 with fail
  rw [HS1.out] at *
  clear hrun
  have S0 : SB W3 (w.heap.size + 1) 31 (bornF seed 0) := LC'.out.sb hX4
  clear hX4
  go_wp2_with fail
  go_loopw [7] (fun iv wr => ∃ i : Nat, i ≤ 2 ∧ iv = .int .i64 i ∧ SB wr (w.heap.size + 1) 31 (bornF seed i) ∧ Blk wr w.heap.size 31 Try.zeroCells31 ∧ Below w.heap.size w wr) (fun iv _ => 2 - (intOf iv).toNat)
  case atStart => exact ⟨0, by omega, rfl, S0, hR3, hB3⟩
  case round =>
    clear S0 hR3 hB3
    obtain ⟨i, hi, rfl, hS, hR, hB⟩ := hrel
    by_cases hlt : i < 2
    · have i1 : (0 : Int) ≤ (i : Int) := by omega
      have i2 : (i : Int) < 2 := by omega
      have p := Lib.hid (born_any wr i hlt)
      have HE := Lib.hid (show bornF seed (i + 1) = setB (bornF seed i) (2 + i * 7) (bornB i) from rfl)
      have HL := Lib.hid hlt
      have HS := Lib.hid hS
      have HR := Lib.hid hR
      have HB := Lib.hid hB
      clear hS hR hB hlt
      go_wp2_with fail
      refine p.out.mono ?_
      rintro e w2 ⟨rfl, hb2⟩
      have hS2 := HS.out.below hb2 HS.out.lt
      have hR2 := HR.out.below hb2 HR.out.lt
      have hB2 := HB.out.trans (hb2.mono HB.out.size)
      have ht := hS2.there (o := 2 + i * 7) (n := 7) (by have := HL.out; omega)
      have hS3 := hS2.setBody HL.out (bornB i)
      have hT3 : Touch (fun k => k = w.heap.size + 1) w2 (w2.setCells (w.heap.size + 1) (2 + i * 7) (bodL (bornB i))) := touch_setCells (S := fun k => k = w.heap.size + 1) (Touch.refl _ _) _ (.inl rfl) _ _
      have hR3 := hR2.touch hT3 (by omega)
      have hB3 := hB2.trans (hT3.below hB2.size (fun k hk => by omega))
      rw [← HE.out] at hS3
      clear hS2 hR2 hB2 hT3 hb2 p
      go_upto_region 6 with (refine wpList_store_mid (by rfl) 24 _ _ (by rfl) (w.heap.size + 1) (2 + i * 7) (bodL (bornB i)).toArray (by rfl) (by rfl) ht infoB (bodL_one _) ?_)
      clear ht
      have hlt := HL.out
      go_wp2_with fail
      go_roundw
      case rel => exact ⟨i + 1, by omega, by go_num, hS3, hR3, hB3⟩
      case measure => simp [intOf]; omega
    · obtain rfl : i = 2 := by omega
      rw [← newF_eq] at hS
      obtain ⟨C9, LC9⟩ := let_of (newF seed)
      have hS9 := LC9.blk hS
      have hzs : Try.zeroCells31.size = C9.size := by rw [LC9.size, ← stA_zero]; exact stA_size _
      have hif := LC9.info
      have hone := LC9.one
      have HC9 := Lib.hid LC9.eq
      clear LC9 hS hlt
      go_upto_region 7 with fail
      go_wp2_with (first | (refine wpList_load_blk (by rfl) 31 _ (by rfl) (w.heap.size + 1) (by rfl) _ C9 _ hS9 Try.underlying31 (by rfl) hif ?_) | (refine wpList_store_blk (by rfl) 31 _ _ (by rfl) w.heap.size C9 (by rfl) (by rfl) _ _ hR hif hzs hone ?_; intro W6 hd6 ht6))
      refine bodyPost_ret (v := .agg C9) (results_blk Try.results35 _ _ w.heap.size _ _ _ (by rfl) hd6 Try.underlying31 (by rfl) hif) rfl ⟨by rw [HC9.out]; rfl, ?_⟩
      exact hB.trans (ht6.below hB.size (fun k hk => by omega))

/-! ### Play -/
def inA (ls : List (Nat × Nat)) (j : Nat) : Nat → Nat := fun i => if i = 0 then (ls.getD j (0, 0)).1 else (ls.getD j (0, 0)).2
/-- A list of both players' inputs that lies in memory. -/
def InRow (w : World) (a : Option Addr) (ls : List (Nat × Nat)) : Prop :=
  (∀ x ∈ ls, x.1 < 65536 ∧ x.2 < 65536) ∧ (0 < ls.length → ∃ b off, a = some ⟨b, off, none⟩ ∧ b < w.heap.size ∧ ∀ j, j < ls.length → w.cell? ⟨b, off + j * 2, none⟩ = some (.int .u16 (inA ls j 0)) ∧ w.cell? ⟨b, off + j * 2 + 1, none⟩ = some (.int .u16 (inA ls j 1)))
theorem InRow.below {w w' : World} {a : Option Addr} {ls : List (Nat × Nat)} (h : InRow w a ls) (hb : Below w.heap.size w w') : InRow w' a ls :=
  ⟨h.1, fun hp => by
    obtain ⟨b, off, e, hlt, hc⟩ := h.2 hp
    exact ⟨b, off, e, Nat.lt_of_lt_of_le hlt hb.size, fun j hj => ⟨(hb.cell (p := ⟨b, off + j * 2, none⟩) hlt).trans (hc j hj).1, (hb.cell (p := ⟨b, off + j * 2 + 1, none⟩) hlt).trans (hc j hj).2⟩⟩⟩
theorem inA_lt {ls : List (Nat × Nat)} (h : ∀ x ∈ ls, x.1 < 65536 ∧ x.2 < 65536) (j : Nat) : ∀ i, i < 2 → inA ls j i < 65536 := by
  intro i hi
  have hx : (ls.getD j (0, 0)).1 < 65536 ∧ (ls.getD j (0, 0)).2 < 65536 := by
    by_cases hj : j < ls.length
    · rw [List.getD_eq_getElem?_getD, List.getElem?_eq_getElem hj]
      exact h _ (List.getElem_mem hj)
    · rw [List.getD_eq_getElem?_getD, List.getElem?_eq_none (by omega)]
      exact ⟨by decide, by decide⟩
  unfold inA
  split
  · exact hx.1
  · exact hx.2
def playF (f : F) (ls : List (Nat × Nat)) : Nat → F
  | 0 => f
  | k + 1 => stepF (playF f ls k) (inA ls k)
theorem Inv.play {fr sc : Int} {f : F} (h : Inv fr sc f) (ls : List (Nat × Nat)) : ∀ k : Nat, Inv (fr + k) (sc + 8 * k) (playF f ls k)
  | 0 => by simpa [playF] using h
  | k + 1 => by
    have := (Inv.play h ls k).step (inA ls k)
    have e1 : fr + ((k + 1 : Nat) : Int) = fr + (k : Int) + 1 := by omega
    have e2 : sc + 8 * ((k + 1 : Nat) : Int) = sc + 8 * (k : Int) + 8 := by omega
    rw [e1, e2]
    exact this

set_option maxRecDepth 100000 in
set_option maxHeartbeats 4000000 in
theorem play_any (w : World) (f : F) (fr sc : Int) (a : Option Addr) (c : Nat) (ls : List (Nat × Nat)) (hr : InRow w a ls) (hI : Inv fr sc f) (hl : ls.length ≤ 281474976710656) (hsc : sc ≤ 281474976710656) (hfr : fr ≤ 281474976710656) (hfr0 : 0 ≤ fr) :
    Calls Try.prog 38 #[stV f, .slice a ls.length c] w fun e w' => e = .returned (stV (playF f ls ls.length)) ∧ Below w.heap.size w w' := by
  obtain ⟨W1, hW1⟩ : ∃ W1, W1 = (w.alloc (.cells (stA f) 31)).alloc (.cells Try.zeroCells31 31) := ⟨_, rfl⟩
  have hS : SB W1 w.heap.size 31 f := by rw [hW1]; exact (SB.new w _ f).alloc _
  have hR : Blk W1 (w.heap.size + 1) 31 Try.zeroCells31 := by
    rw [hW1]
    have := Blk.new (w.alloc (.cells (stA f) 31)) 31 Try.zeroCells31
    simpa using this
  have hB : Below w.heap.size w W1 := by rw [hW1]; exact ((Below.refl _ w).alloc (Nat.le_refl _) _).alloc (by simp) _
  have hz : w.heap.size + 2 ≤ W1.heap.size := by rw [hW1]; simp
  have HR := Lib.hid hr
  have HI := Lib.hid hI
  unfold stV
  clear hr hI
  go_enter Try.func38, Try.ntmps38
  go_upto_region 1 with fail
  rw [← hW1]
  clear hW1
  go_wp2_with fail
  go_loopw [9] (fun iv wr => ∃ k : Nat, k ≤ ls.length ∧ iv = .int .i64 k ∧ SB wr w.heap.size 31 (playF f ls k) ∧ Blk wr (w.heap.size + 1) 31 Try.zeroCells31 ∧ w.heap.size + 2 ≤ wr.heap.size ∧ Below w.heap.size w wr) (fun iv _ => ls.length - (intOf iv).toNat)
  case atStart => exact ⟨0, by omega, rfl, hS, hR, hz, hB⟩
  case round =>
    clear hS hR hB hz
    obtain ⟨k, hk, rfl, hS, hR, hz, hB⟩ := hrel
    by_cases hlt : k < ls.length
    · obtain ⟨gb, ob, rfl, hgb, hcb⟩ := (HR.out.below hB).2 (by omega)
      obtain ⟨c0, c1⟩ := hcb k hlt
      have i0 : (k : Int) < (ls.length : Int) := by omega
      have i1 : (0 : Int) ≤ (k : Int) := by omega
      have hInv := HI.out.play ls k
      have HE := Lib.hid (show playF f ls (k + 1) = stepF (playF f ls k) (inA ls k) from rfl)
      have pS := Lib.hid (fun W => step_any W (playF f ls k) _ _ (inA ls k) (inA_lt HR.out.1 k) hInv (by omega) (by omega) (by omega))
      unfold inV stV at pS
      obtain ⟨C, LC⟩ := let_of (playF f ls k)
      rw [← LC.eq] at pS
      obtain ⟨D, LD⟩ := let_of (stepF (playF f ls k) (inA ls k))
      rw [← LD.eq] at pS
      have hS1 := (LC.blk hS).alloc (.cells #[.int .u16 (inA ls k 0), .int .u16 (inA ls k 1)] 69)
      have hR1 := hR.alloc (.cells #[.int .u16 (inA ls k 0), .int .u16 (inA ls k 1)] 69)
      have hB1 : Below w.heap.size w (wr.alloc (.cells #[.int .u16 (inA ls k 0), .int .u16 (inA ls k 1)] 69)) := hB.alloc hB.size _
      have hb1 : Blk (wr.alloc (.cells #[.int .u16 (inA ls k 0), .int .u16 (inA ls k 1)] 69)) wr.heap.size 69 #[.int .u16 (inA ls k 0), .int .u16 (inA ls k 1)] := Blk.new _ _ _
      have hz1 : w.heap.size + 2 ≤ (wr.alloc (.cells #[.int .u16 (inA ls k 0), .int .u16 (inA ls k 1)] 69)).heap.size := by simp; omega
      have hif := LC.info
      have hCD : C.size = D.size := by rw [LC.size, LD.size]
      have honeD := LD.one
      have hifD := LD.info
      have HD := Lib.hid LD
      have HCD := Lib.hid hCD
      clear hcb hInv hS hR hB LC LD hCD hgb
      generalize inA ls k 0 = n0 at *
      generalize inA ls k 1 = n1 at *
      go_upto_region 4 with fail
      clear c0 c1
      generalize wr.heap.size = rb at *
      generalize wr.alloc (.cells #[.int .u16 n0, .int .u16 n1] 69) = W2 at *
      have d0 := hb1.cell 0
      have d1 := hb1.cell 1
      go_wp2_with (refine wpList_load_blk (by rfl) 31 _ (by rfl) w.heap.size (by rfl) _ C _ hS1 Try.underlying31 (by rfl) hif ?_)
      refine (pS.out _).mono ?_
      rintro e w3 ⟨rfl, hb3⟩
      have hS3 := hS1.below hb3 hS1.lt
      have hR3 := hR1.below hb3 hR1.lt
      have hB3 := hB1.trans (hb3.mono hB1.size)
      have hz3 := Nat.le_trans hz1 hb3.size
      clear hS1 hR1 hB1 hb1 hb3 d0 d1 hz1 pS hif
      go_upto_region 5 with (refine wpList_store_blk (by rfl) 31 _ _ (by rfl) w.heap.size D (by rfl) (by rfl) _ C hS3 hifD HCD.out honeD ?_; intro W4 hS4 hT4)
      have hS5 := HD.out.sb hS4
      rw [← HE.out] at hS5
      have hz4 := hT4.size
      have hR4 := hR3.touch hT4 (by omega)
      have hB4 := hB3.trans (hT4.below hB3.size (fun k hk => by omega))
      clear hS3 hR3 hB3 hT4 hS4 HD HCD honeD hifD
      go_wp2_with fail
      go_roundw
      case rel => exact ⟨k + 1, by omega, by go_num, hS5, hR4, by omega, hB4⟩
      case measure => simp [intOf]; omega
    · obtain rfl : k = ls.length := by omega
      obtain ⟨C9, LC9⟩ := let_of (playF f ls ls.length)
      have hS9 := LC9.blk hS
      have hzs : Try.zeroCells31.size = C9.size := by rw [LC9.size, ← stA_zero]; exact stA_size _
      have hif := LC9.info
      have hone := LC9.one
      have HC9 := Lib.hid LC9.eq
      clear LC9 hS hlt
      go_upto_region 6 with fail
      go_wp2_with (first | (refine wpList_load_blk (by rfl) 31 _ (by rfl) w.heap.size (by rfl) _ C9 _ hS9 Try.underlying31 (by rfl) hif ?_) | (refine wpList_store_blk (by rfl) 31 _ _ (by rfl) (w.heap.size + 1) C9 (by rfl) (by rfl) _ _ hR hif hzs hone ?_; intro W6 hd6 ht6))
      refine bodyPost_ret (v := .agg C9) (results_blk Try.results38 _ _ (w.heap.size + 1) _ _ _ (by rfl) hd6 Try.underlying31 (by rfl) hif) rfl ⟨by rw [HC9.out], ?_⟩
      exact hB.trans (ht6.below hB.size (fun k hk => by omega))
end Go.Proofs.Ytlhoffhagfhbcaa.Gm
namespace Go.Proofs.Ytlhoffhagfhbcaa.Gm
open Go.RowKit Go.Sort Go.Proofs.Ytlhoffhagfhbcaa.Num Go.Proofs.Ytlhoffhagfhbcaa.Eql
set_option linter.all false

/-- The numbers fit their cells. -/
structure Wf (f : F) : Prop where
  i64 : ∀ j, j < 66 → -9223372036854775808 ≤ f j ∧ f j ≤ 9223372036854775807
  seed : 0 ≤ f 1 ∧ f 1 < 4294967296
theorem Inv.wf {fr sc : Int} {f : F} (h : Inv fr sc f) (h0 : 0 ≤ fr) (h1 : fr ≤ 4611686018427387904) (h2 : sc ≤ 4611686018427387904) : Wf f := by
  refine ⟨fun j hj => ?_, h.seed0, h.seed1⟩
  have s0 := h.seed0
  have s1 := h.seed1
  have f0 := h.frame
  have p0 := h.p0
  have p1 := h.p1
  have q0 := h.q0
  have q1 := h.q1
  by_cases a : j = 0
  · subst a; omega
  by_cases b : j = 1
  · subst b; omega
  by_cases c : j < 16
  · obtain ⟨i, r, hi, hr, rfl⟩ : ∃ i r, i < 2 ∧ r < 7 ∧ j = 2 + i * 7 + r := ⟨(j - 2) / 7, (j - 2) % 7, by omega, by omega, by omega⟩
    have hb := h.b i hi
    have x0 := hb.x0; have x1 := hb.x1; have y0 := hb.y0; have y1 := hb.y1; have v0 := hb.vx0; have v1 := hb.vx1; have u0 := hb.vy0; have u1 := hb.vy1
    have l0 := hb.l0; have l1 := hb.l1; have c0 := hb.c0; have c1 := hb.c1; have fc := hb.fc
    simp only [bod] at x0 x1 y0 y1 v0 v1 u0 u1 l0 l1 c0 c1 fc
    match r, hr with
    | 0, _ => simp only [Nat.add_zero]; omega
    | 1, _ => omega
    | 2, _ => omega
    | 3, _ => omega
    | 4, _ => omega
    | 5, _ => omega
    | 6, _ => omega
  by_cases d : j < 64
  · obtain ⟨k, r, hk, hr, rfl⟩ : ∃ k r, k < 8 ∧ r < 6 ∧ j = 16 + k * 6 + r := ⟨(j - 16) / 6, (j - 16) % 6, by omega, by omega, by omega⟩
    rcases h.s k hk with e | e
    · have z : ∀ r, r < 6 → f (16 + k * 6 + r) = 0 := by
        intro r hr
        simp only [sho, zeroS, Shot.mk.injEq] at e
        obtain ⟨e0, e1, e2, e3, e4, e5⟩ := e
        match r, hr with
        | 0, _ => exact e0
        | 1, _ => exact e1
        | 2, _ => exact e2
        | 3, _ => exact e3
        | 4, _ => exact e4
        | 5, _ => exact e5
      rw [z r hr]; omega
    · have o := e.on; have x0 := e.x0; have x1 := e.x1; have y0 := e.y0; have y1 := e.y1; have v := e.vx; have w := e.ow; have r0 := e.f0; have r1 := e.f1
      simp only [sho] at o x0 x1 y0 y1 v w r0 r1
      match r, hr with
      | 0, _ => simp only [Nat.add_zero]; omega
      | 1, _ => omega
      | 2, _ => omega
      | 3, _ => omega
      | 4, _ => omega
      | 5, _ => omega
  · have : j = 64 ∨ j = 65 := by omega
    rcases this with rfl | rfl <;> omega
theorem sameK_st {f : F} (h : Wf f) : SameK (stA zF).toList (stA f).toList := by
  refine ⟨by simp [stA], fun i a b ha hb => ?_⟩
  have hi : i < 66 := by
    have := (List.getElem?_eq_some_iff.1 ha).1
    simpa [stA] using this
  rw [Array.getElem?_toList, stA_get _ hi] at ha hb
  cases ha; cases hb
  have r := h.i64 i hi
  have s := h.seed
  by_cases e1 : i = 1
  · subst e1
    rw [cv_seed, cv_seed]
    exact .inr ⟨_, _, _, rfl, rfl, by simp [Lit.wf, IntKind.min, IntKind.max, IntKind.bits, IntKind.signed] <;> omega⟩
  · by_cases e2 : 16 ≤ i ∧ i < 64 ∧ (i - 16) % 6 = 0
    · exact .inl ⟨onB (zF i), onB (f i), by unfold cv; rw [if_neg e1, if_pos e2], by unfold cv; rw [if_neg e1, if_pos e2]⟩
    · rw [cv_int _ e1 e2, cv_int _ e1 e2]
      exact .inr ⟨_, _, _, rfl, rfl, by simp [Lit.wf, IntKind.min, IntKind.max, IntKind.bits, IntKind.signed] <;> omega⟩
theorem key33 : Try.prog.keyTypeAt 6 31 = true := by kernel_rfl
theorem tiled33 : Try.prog.tiled 6 31 = true := by kernel_rfl
theorem lits33 : (Try.prog.keyLits 6 31 (stA zF).toList).isSome = true := by kernel_rfl
theorem cells33 : (stA zF).toList.length = Try.prog.cellsOf 31 := by kernel_rfl
theorem guard33 : Try.prog.eqGuardType Try.prog.depth 31 = false := by kernel_rfl
theorem st_eql (w : World) {f g : F} (hf : Wf f) (hg : Wf g) : ∃ r : Bool, (Op.equalIn 10000 31 (.agg (stA f)) (.agg (stA g))).run Try.prog w = .ok r w ∧ (r = true ↔ stA f = stA g) :=
  eql_run (P := Try.prog) w (m := 6) (by decide) key33 tiled33 (by kernel_rfl) (stA zF).toList lits33 cells33 (sameK_st hf) (sameK_st hg)
theorem st_same (w : World) {f g : F} (hf : Wf f) (hg : Wf g) (e : stA f = stA g) : (Op.equalIn 10000 31 (.agg (stA f)) (.agg (stA g))).run Try.prog w = .ok true w := by
  obtain ⟨r, hr, hi⟩ := st_eql w hf hg
  rw [hi.2 e] at hr
  exact hr
theorem first_step : stA (stepF (newF 1) (fun _ => 0)) = stA (put (put (newF 1) 0 1) 1 (rollV 1)) := by kernel_rfl
theorem hz66 : Try.zeroCells31.size = 66 := by rw [← stA_zero]; exact stA_size _
/-- 's := ..' of a state: a block laid and stored whole. -/
theorem alloc_store (w : World) {C : Array Value} {f : F} (L : Let C f) : ∃ W3, (storeCells ⟨w.heap.size, 0, none⟩ C.toList).run Try.prog (w.alloc (.cells Try.zeroCells31 31)) = .ok () W3 ∧ SB W3 w.heap.size 31 f ∧ Below w.heap.size w W3 ∧ w.heap.size + 1 = W3.heap.size := by
  have hX : Blk (w.alloc (.cells Try.zeroCells31 31)) w.heap.size 31 Try.zeroCells31 := Blk.new _ _ _
  have := run_storeCells_from (P := Try.prog) w.heap.size 31 C.toList 0 _ _ hX (by rw [hz66]; simp [L.size]) (fun v hv => (Array.all_eq_true_iff_forall_mem.1 L.one) v (by simpa using hv))
  refine ⟨_, this, ?_, ?_, by simp⟩
  · have e : (Try.zeroCells31.toList.take 0 ++ C.toList).toArray = C := by simp
    rw [e]
    exact L.sb (hX.setRow C)
  · exact ((Below.refl _ w).alloc (Nat.le_refl _) _).trans ((touch_setRow _ w.heap.size _).below (by simp) (fun k hk => by omega))

set_option maxRecDepth 100000 in
set_option maxHeartbeats 4000000 in
theorem awake_any (w : World) : Calls Try.prog 29 #[] w fun e w' => e = .returned (.bool true) ∧ Below w.heap.size w w' := by
  have pN := Lib.hid (new_any w 1 (by decide) (by decide))
  obtain ⟨C, LC⟩ := let_of (newF 1)
  have hI := Inv.new 1 (by decide) (by decide)
  have pS := Lib.hid (fun W => step_any W (newF 1) 0 0 (fun _ => 0) (fun _ _ => by decide) hI (by decide) (by decide) (by decide))
  obtain ⟨D, LD⟩ := let_of (stepF (newF 1) (fun _ => 0))
  unfold stV at pN pS
  unfold inV at pS
  rw [← LC.eq] at pN pS
  rw [← LD.eq] at pS
  have pR := Lib.hid (fun W => roll_any W 1 (by decide) (by decide))
  have hcs := LC.size
  have hds := LD.size
  have hcr := LC.eq
  have e0 : newF 1 0 = 0 := rfl
  have e1 : newF 1 1 = 1 := rfl
  have HA := Lib.hid (fun W => alloc_store W LC)
  have HB := Lib.hid (fun W => alloc_store W LD)
  have hif := Lib.hid LC.info
  have hifD := Lib.hid LD.info
  have wfD : Wf (stepF (newF 1) (fun _ => 0)) := (hI.step _).wf (by decide) (by decide) (by decide)
  have wfE : Wf (put (put (newF 1) 0 1) 1 (rollV 1)) := by
    have w0 := hI.wf (by decide) (by decide) (by decide)
    refine ⟨fun j hj => ?_, by decide⟩
    unfold put
    split
    · decide
    · split
      · decide
      · exact w0.i64 j hj
  obtain ⟨E, LE⟩ := let_of (put (put (newF 1) 0 1) 1 (rollV 1))
  have hq : ∀ W, (Op.equalIn 10000 31 (.agg D) (.agg E)).run Try.prog W = .ok true W := fun W => by
    rw [LD.eq, LE.eq]; exact st_same W wfD wfE first_step
  have hg := guard33
  have LEE := Lib.hid LE
  clear hcr wfD wfE hI LE
  have LDD := Lib.hid LD
  have LCC := Lib.hid LC
  clear LC LD e0 e1
  go_enter Try.func29, Try.ntmps29
  go_wp2_with fail
  refine pN.out.mono ?_
  rintro e w1 ⟨rfl, hb1⟩
  obtain ⟨W3, hrun, hS3, hB3, hz3⟩ := HA.out w1
  have hz66' := hz66
  go_upto_region 2 with fail
  clear hrun hz66'
  have hzz := hb1.size
  have hBB := hb1.trans (hB3.mono hb1.size)
  have hS3' := LCC.out.blk hS3
  have hif2 := hif.out
  go_wp2_with (refine wpList_load_blk (by rfl) 31 _ (by rfl) w1.heap.size (by rfl) _ C _ hS3' Try.underlying31 (by rfl) hif2 ?_)
  refine (pS.out _).mono ?_
  rintro e w4 ⟨rfl, hb4⟩
  obtain ⟨W5, hrun, hS5, hB5, hz5⟩ := HB.out w4
  have hz66' := hz66
  go_upto_region 3 with fail
  clear hrun hz66'
  have hz4 := hb4.size
  have hS4 := (hS3.below hb4 hS3.lt).below hB5 (by omega)
  have hBB5 := (hBB.trans (hb4.mono hBB.size)).trans (hB5.mono (by omega))
  have c0 := hS4.int (j := 0) (by omega) (by omega) (by omega)
  have c1 := hS4.seed
  have f0 := hS4.fr 0
  have f1 := hS4.fr 1
  have R := (hS4.setInt (j := 0) (by omega) (by omega) (by omega) 1).set_ (j := 1) (by omega) (rollV 1)
  rw [cv_seed] at R
  have T : Touch (fun k => k = w1.heap.size) W5 ((W5.setCell ⟨w1.heap.size, 0, none⟩ (.int .i64 1)).setCell ⟨w1.heap.size, 1, none⟩ (.int .u32 (rollV 1))) := ((Touch.refl (fun k => k = w1.heap.size) _).setCell (.inl rfl) _).setCell (.inl rfl) _
  have hS6 := hS5.touch T (by omega)
  have hBB6 := hBB5.trans (T.below hBB5.size (fun k hk => by omega))
  clear hS3 hS3' hif2 hb1 hb4 hB3 hB5
  go_wp2_with fail
  refine (pR.out _).mono ?_
  rintro e w' ⟨rfl, rfl⟩
  go_upto_region 4 with fail
  clear c0 c1 f0 f1 T
  generalize (W5.setCell ⟨w1.heap.size, 0, none⟩ (.int .i64 1)).setCell ⟨w1.heap.size, 1, none⟩ (.int .u32 (rollV 1)) = W6 at *
  have hX := LDD.out.blk hS6
  have hY := LEE.out.blk R
  have hifE := LEE.out.info
  have hifD2 := hifD.out
  go_wp2_with (first | (refine wpList_load_blk (by rfl) 31 _ (by rfl) w4.heap.size (by rfl) _ D _ hX Try.underlying31 (by rfl) hifD2 ?_) | (refine wpList_load_blk (by rfl) 31 _ (by rfl) w1.heap.size (by rfl) _ E _ hY Try.underlying31 (by rfl) hifE ?_))
  go_ret
  exact ⟨rfl, hBB6⟩
end Go.Proofs.Ytlhoffhagfhbcaa.Gm
namespace Go.Proofs.Ytlhoffhagfhbcaa.Gm
open Go.RowKit Go.Sort Go.Proofs.Ytlhoffhagfhbcaa.Num Go.Proofs.Ytlhoffhagfhbcaa.Byt
set_option linter.all false

def runB (f : F) (o : Nat) : Nat → List Int
  | 0 => []
  | k + 1 => runB f o k ++ be8 (f (o + k))
def bodiesB (f : F) : Nat → List Int
  | 0 => be8 (f 0) ++ be4 (f 1)
  | i + 1 => bodiesB f i ++ runB f (2 + i * 7) 7
def onI (z : Int) : Int := if onB z then 1 else 0
def shotsB (f : F) : Nat → List Int
  | 0 => bodiesB f 2
  | k + 1 => shotsB f k ++ [onI (f (16 + k * 6))] ++ runB f (16 + k * 6 + 1) 5
def stB (f : F) : List Int := shotsB f 8 ++ be8 (f 64) ++ be8 (f 65)
theorem be8_len (z : Int) : (be8 z).length = 8 := rfl
theorem runB_len (f : F) (o : Nat) : ∀ k, (runB f o k).length = 8 * k
  | 0 => rfl
  | k + 1 => by rw [runB, List.length_append, runB_len f o k, be8_len]; omega
theorem bodiesB_len (f : F) : ∀ i, (bodiesB f i).length = 12 + 56 * i
  | 0 => rfl
  | i + 1 => by rw [bodiesB, List.length_append, bodiesB_len f i, runB_len]; omega
theorem shotsB_len (f : F) : ∀ k, (shotsB f k).length = 124 + 41 * k
  | 0 => by rw [shotsB, bodiesB_len]
  | k + 1 => by rw [shotsB, List.length_append, List.length_append, shotsB_len f k, runB_len]; simp; omega
theorem stB_len (f : F) : (stB f).length = 468 := by
  unfold stB
  rw [List.length_append, List.length_append, shotsB_len, be8_len, be8_len]

/-- Bytes so far: what lay below the base lies as it was. -/
structure Run (B : Nat) (W1 wr : World) (v : Value) (xs : List Int) : Prop where
  out : Out wr v xs
  below : Below B W1 wr
  low : ∀ g, v.ownBlock = some g → B ≤ g
section
variable {B : Nat} {W1 wr w' : World} {v v' : Value} {xs xs' : List Int}
theorem Run.put (h : Run B W1 wr v xs) (hB : B ≤ W1.heap.size) (o : Out w' v' xs') (t : Touch (OwnB v) wr w') (g : ∀ g, v'.ownBlock = some g → v.ownBlock = some g ∨ wr.heap.size ≤ g) : Run B W1 w' v' xs' :=
  ⟨o, h.below.trans (t.below (Nat.le_trans hB h.below.size) (fun k hk => h.low k hk)), fun k hk => (g k hk).elim (h.low k) (fun e => Nat.le_trans (Nat.le_trans hB h.below.size) e)⟩
theorem Run.alloc (h : Run B W1 wr v xs) (hB : B ≤ W1.heap.size) (ob : Obj) : Run B W1 (wr.alloc ob) v xs :=
  ⟨On.alloc h.out ob, h.below.alloc (Nat.le_trans hB h.below.size) ob, h.low⟩
theorem Run.drewN (h : Run B W1 wr v xs) (n : Nat) : Run B W1 (wr.drewN n) v xs := ⟨h.out, below_drewN h.below n, h.low⟩
theorem Run.app {ys : List Int} (h : Run B W1 wr v xs) (hB : B ≤ W1.heap.size) (hon : On w' 5 1 v' (xs.length + ys.length) (ub xs ++ ub ys)) (hg : wr.grownBy w' v.ownBlock) (hv : v'.ownBlock = v.ownBlock ∨ v'.ownBlock = some wr.heap.size) : Run B W1 w' v' (xs ++ ys) := by
  refine h.put hB ?_ ((Touch.refl (OwnB v) wr).grown hg (fun k hk => .inl hk)) (fun g hgv => ?_)
  · unfold Out; rw [List.length_append, ub_app]; exact hon
  · rcases hv with e | e
    · exact .inl (by rw [← e]; exact hgv)
    · rw [e] at hgv; cases hgv; exact .inr (Nat.le_refl _)
theorem Run.sb {b : Nat} {t : TypeId} {f : F} (h : Run B W1 wr v xs) (hS : SB W1 b t f) (hb : b < B) : SB wr b t f := hS.below h.below hb
end

theorem idx27 (f : F) (i : Nat) (hi : i < 2) (W : World) : (Instr.index 25 (.agg ((stA f).extract 2 16).toList.toArray) (.int .i64 i)).run Try.prog W = .ok (.agg (bodL (bod f (2 + i * 7))).toArray) W := by
  have e : i = 0 ∨ i = 1 := by omega
  rcases e with rfl | rfl
  · show _ = _; kernel_rfl
  · show _ = _; kernel_rfl
theorem idx30 (f : F) (k : Nat) (hk : k < 8) (W : World) : (Instr.index 28 (.agg ((stA f).extract 16 64).toList.toArray) (.int .i64 k)).run Try.prog W = .ok (.agg (shoL (sho f (16 + k * 6))).toArray) W := by
  match k, hk with
  | 0, _ => show _ = _; kernel_rfl
  | 1, _ => show _ = _; kernel_rfl
  | 2, _ => show _ = _; kernel_rfl
  | 3, _ => show _ = _; kernel_rfl
  | 4, _ => show _ = _; kernel_rfl
  | 5, _ => show _ = _; kernel_rfl
  | 6, _ => show _ = _; kernel_rfl
  | 7, _ => show _ = _; kernel_rfl
def bArr (f : F) (o : Nat) : Array Value := #[.int .i64 (f o), .int .i64 (f (o + 1)), .int .i64 (f (o + 2)), .int .i64 (f (o + 3)), .int .i64 (f (o + 4)), .int .i64 (f (o + 5)), .int .i64 (f (o + 6))]
theorem bArr_get (f : F) (o : Nat) {k : Nat} (hk : k < 7) : (bArr f o)[k]? = some (.int .i64 (f (o + k))) := by
  match k, hk with
  | 0, _ => rfl
  | 1, _ => rfl
  | 2, _ => rfl
  | 3, _ => rfl
  | 4, _ => rfl
  | 5, _ => rfl
  | 6, _ => rfl
def sArr (f : F) (o : Nat) : Array Value := #[.int .i64 (f (o + 1)), .int .i64 (f (o + 2)), .int .i64 (f (o + 3)), .int .i64 (f (o + 4)), .int .i64 (f (o + 5))]
theorem sArr_get (f : F) (o : Nat) {k : Nat} (hk : k < 5) : (sArr f o)[k]? = some (.int .i64 (f (o + 1 + k))) := by
  match k, hk with
  | 0, _ => rfl
  | 1, _ => rfl
  | 2, _ => rfl
  | 3, _ => rfl
  | 4, _ => rfl
theorem info27 : (Try.prog.info? 25).map (·.size) = some 14 := by kernel_rfl
theorem info30 : (Try.prog.info? 28).map (·.size) = some 48 := by kernel_rfl
/-- Eight bytes more. -/
theorem put_more (W : World) (v : Value) (xs : List Int) (z : Int) (h : Out W v xs) (hl : xs.length ≤ 900000) : Calls Try.prog 69 #[v, .int .u64 (IntKind.u64.wrap z)] W (Puts W v (xs ++ be8 z)) := by
  rw [← be8_wrap z]
  exact put64_any W v xs _ h hl (by simp [IntKind.wrap, IntKind.bits, IntKind.signed]; omega) (by simp [IntKind.wrap, IntKind.bits, IntKind.signed]; omega)

set_option maxRecDepth 100000 in
set_option maxHeartbeats 8000000 in
theorem bytes_any (w : World) (f : F) (hw : Wf f) :
    Calls Try.prog 31 #[stV f] w fun e w' => ∃ v, e = .returned v ∧ Run w.heap.size w w' v (stB f) := by
  obtain ⟨W1, hW1⟩ : ∃ W1, W1 = w.alloc (.cells (stA f) 31) := ⟨_, rfl⟩
  have hS : SB W1 w.heap.size 31 f := by rw [hW1]; exact SB.new w _ f
  have hB : Below w.heap.size w W1 := by rw [hW1]; exact (Below.refl _ w).alloc (Nat.le_refl _) _
  have hz : w.heap.size + 1 ≤ W1.heap.size := by rw [hW1]; simp
  have c0 := hS.int (j := 0) (by omega) (by omega) (by omega)
  have c1 := hS.seed
  have HS := Lib.hid hS
  have HB := Lib.hid hB
  have HW := Lib.hid hw
  have hsd := hw.seed
  have p1 := Lib.hid (fun W => put_more W (.slice none 0 0) [] (f 0) (Out.nil _) (by simp))
  have p2 := Lib.hid (fun W v xs (h : Out W v xs) (hl : xs.length ≤ 1000000) => put32_any W v xs (f 1) h hl hsd.1 hsd.2)
  have hb0 : w.heap.size < W1.heap.size := by omega
  unfold stV
  clear hS hB hw hsd
  go_enter Try.func31, Try.ntmps31
  go_upto_region 1 with fail
  rw [← hW1]
  clear hW1
  go_region_held3 (fun w' => w'.cell? ⟨w.heap.size, 0, none⟩ = some (.int .i64 (f 0)) ∧ w'.cell? ⟨w.heap.size, 1, none⟩ = some (.int .u32 (f 1))) (first | go_keep | exact ⟨k0, k1⟩ | exact ⟨l0, l1⟩)
    (first
      | (go_at_call 69; refine (p1.out _).mono ?_; rintro e w2 ⟨v1, rfl, o1, t1, g1⟩; have k0 : w2.cell? ⟨w.heap.size, 0, none⟩ = some (.int .i64 (f 0)) := (t1.cell (p := ⟨w.heap.size, 0, none⟩) hb0 (by simp [OwnB, Value.ownBlock])).trans c0; have k1 : w2.cell? ⟨w.heap.size, 1, none⟩ = some (.int .u32 (f 1)) := (t1.cell (p := ⟨w.heap.size, 1, none⟩) hb0 (by simp [OwnB, Value.ownBlock])).trans c1)
      | (go_at_call 68; refine (p2.out _ v1 _ o1 (by simp [be8, be4])).mono ?_; rintro e w3 ⟨v2, rfl, o2, t2, g2⟩; have l0 : w3.cell? ⟨w.heap.size, 0, none⟩ = some (.int .i64 (f 0)) := (t2.cell (p := ⟨w.heap.size, 0, none⟩) (Nat.lt_of_lt_of_le hb0 t1.size) (fun hk => (g1 _ hk).elim (fun e => by simp [Value.ownBlock] at e) (fun e => by simp at e; omega))).trans k0; have l1 : w3.cell? ⟨w.heap.size, 1, none⟩ = some (.int .u32 (f 1)) := (t2.cell (p := ⟨w.heap.size, 1, none⟩) (Nat.lt_of_lt_of_le hb0 t1.size) (fun hk => (g1 _ hk).elim (fun e => by simp [Value.ownBlock] at e) (fun e => by simp at e; omega))).trans k1))
  have R0 : Run (w.heap.size + 1) W1 W1.drew (.slice none 0 0) [] := ⟨Out.nil _, (Below.refl _ _).drew, fun g hg => by simp [Value.ownBlock] at hg⟩
  have R2 : Run (w.heap.size + 1) W1 w3 v2 (bodiesB f 0) := ((R0.put hz o1 t1 g1).put hz o2 t2 g2)
  clear R0 o1 t1 g1 o2 t2 g2 k0 k1 l0 l1 c0 c1 p1 p2
  obtain ⟨L27, hL27⟩ : ∃ L, L = ((stA f).extract 2 16).toList := ⟨_, rfl⟩
  have hr27 : w3.rangeAt w.heap.size 2 L27 := by rw [hL27]; exact World.rangeAt_of_block (R2.sb HS.out (by omega)) 2 14
  have hn27 : L27.length = 14 := by rw [hL27]; simp [stA]
  have I27 := Lib.hid (show ∀ i : Nat, i < 2 → ∀ W : World, (Instr.index 25 (.agg L27.toArray) (.int .i64 i)).run Try.prog W = .ok (.agg (bodL (bod f (2 + i * 7))).toArray) W from fun i hi W => by rw [hL27]; exact idx27 f i hi W)
  clear hL27
  have hi27 : (Try.prog.info? 25).map (·.size) = some L27.length := by rw [hn27]; exact info27
  go_upto_region 2 with fail
  go_wp2_with (refine wpList_load_mid (by rfl) 25 _ (by rfl) w.heap.size 2 (by rfl) L27 _ hr27 Try.underlying25 (by rfl) hi27 ?_)
  clear hr27 hi27 hn27
  go_loopw [3, 22] (fun ov iv wr => ∃ i : Nat, i ≤ 2 ∧ iv = .int .i64 i ∧ Run (w.heap.size + 1) W1 wr ov (bodiesB f i)) (fun _ iv _ => 2 - (intOf iv).toNat)
  case atStart => exact ⟨0, by omega, rfl, R2⟩
  case round =>
    clear R2
    obtain ⟨i, hi, rfl, hR⟩ := hrel
    obtain ⟨wo, rfl⟩ : ∃ wo : World, wo = wr := ⟨_, rfl⟩
    by_cases hlt : i < 2
    · have i1 : (0 : Int) ≤ (i : Int) := by omega
      have i2 : (i : Int) < 2 := by omega
      have hx := I27.out i hlt
      unfold bodL at hx
      simp only [bod] at hx
      have HE := Lib.hid (show bodiesB f (i + 1) = bodiesB f i ++ runB f (2 + i * 7) 7 from rfl)
      have hlen := bodiesB_len f i
      have HLEN := Lib.hid (show (bodiesB f i).length ≤ 1000 by omega)
      have hR3 := (hR.alloc hz (.cells (bArr f (2 + i * 7)) 24)).alloc hz (.cells (bArr f (2 + i * 7)) 2)
      have hg3 : Blk ((wo.alloc (.cells (bArr f (2 + i * 7)) 24)).alloc (.cells (bArr f (2 + i * 7)) 2)) (wo.heap.size + 1) 2 (bArr f (2 + i * 7)) := by
        have := Blk.new (wo.alloc (.cells (bArr f (2 + i * 7)) 24)) 2 (bArr f (2 + i * 7))
        simpa using this
      obtain ⟨A7, hA7⟩ : ∃ A, A = bArr f (2 + i * 7) := ⟨_, rfl⟩
      have G7 := Lib.hid (show ∀ k, k < 7 → A7[k]? = some (.int .i64 (f (2 + i * 7 + k))) from fun k hk => by rw [hA7]; exact bArr_get f _ hk)
      generalize bodiesB f i = xs at *
      go_upto_region 6 with fail
      unfold bArr at hA7 hR3 hg3
      clear hx hR hlen
      generalize wo.heap.size + 1 = gs at *
      rw [← hA7] at hg3
      have hR4 : ∃ W4, W4 = (wo.alloc (.cells #[.int .i64 (f (2 + i * 7)), .int .i64 (f (2 + i * 7 + 1)), .int .i64 (f (2 + i * 7 + 2)), .int .i64 (f (2 + i * 7 + 3)), .int .i64 (f (2 + i * 7 + 4)), .int .i64 (f (2 + i * 7 + 5)), .int .i64 (f (2 + i * 7 + 6))] 24)).alloc (.cells #[.int .i64 (f (2 + i * 7)), .int .i64 (f (2 + i * 7 + 1)), .int .i64 (f (2 + i * 7 + 2)), .int .i64 (f (2 + i * 7 + 3)), .int .i64 (f (2 + i * 7 + 4)), .int .i64 (f (2 + i * 7 + 5)), .int .i64 (f (2 + i * 7 + 6))] 2) := ⟨_, rfl⟩
      obtain ⟨W4, hW4⟩ := hR4
      rw [← hA7] at hR3
      rw [hA7, ← hW4] at hR3 hg3
      rw [← hA7] at hg3
      rw [← hW4]
      clear hW4 hA7
      go_wp2_with fail
      go_loopw [3, 41] (fun ov kv wr => ∃ k : Nat, k ≤ 7 ∧ kv = .int .i64 k ∧ Run (w.heap.size + 1) W1 wr ov (xs ++ runB f (2 + i * 7) k) ∧ Blk wr gs 2 A7) (fun _ kv _ => 7 - (intOf kv).toNat)
      case atStart => exact ⟨0, by omega, rfl, by simpa [runB] using hR3, hg3⟩
      case round =>
        clear hR3 hg3
        obtain ⟨k, hk, rfl, hR, hg⟩ := hrel
        by_cases hlk : k < 7
        · have k1 : (0 : Int) ≤ (k : Int) := by omega
          have k2 : (k : Int) < 7 := by omega
          have ck := (hg.cell k).trans (G7.out k hlk)
          have hrl := runB_len f (2 + i * 7) k
          have p := Lib.hid (fun v (h : Out wr v (xs ++ runB f (2 + i * 7) k)) => put_more wr v _ (f (2 + i * 7 + k)) h (by have := HLEN.out; rw [List.length_append]; omega))
          have HR := Lib.hid hR
          have HG := Lib.hid hg
          have HK := Lib.hid (show xs ++ runB f (2 + i * 7) (k + 1) = xs ++ runB f (2 + i * 7) k ++ be8 (f (2 + i * 7 + k)) by rw [runB, List.append_assoc])
          clear hR hg hrl
          go_wp2_with fail
          refine (p.out _ HR.out.out).mono ?_
          rintro e W5 ⟨v5, rfl, o5, t5, g5⟩
          rw [← HK.out] at o5
          have hR5 := HR.out.put hz o5 t5 g5
          have hg5 := HG.out.touch t5 (On.blk_ne HR.out.out HG.out (by decide))
          clear o5 t5 g5 p
          go_wp2_with fail
          go_roundw
          case rel => exact ⟨k + 1, by omega, by go_num, hR5, hg5⟩
          case measure => simp [intOf]; omega
        · obtain rfl : k = 7 := by omega
          rw [← HE.out] at hR
          go_wp2_with fail
          go_roundw
          case rel => exact ⟨i + 1, by omega, by go_num, hR⟩
          case measure => simp [intOf]; omega
    · obtain rfl : i = 2 := by omega
      rw [show ((2 : Nat) : Int) = 2 from rfl]
      have hR0 : Run (w.heap.size + 1) W1 wo _ (shotsB f 0) := hR
      obtain ⟨L30, hL30⟩ : ∃ L, L = ((stA f).extract 16 64).toList := ⟨_, rfl⟩
      have hr30 : wo.rangeAt w.heap.size 16 L30 := by rw [hL30]; exact World.rangeAt_of_block (hR0.sb HS.out (by omega)) 16 48
      have hn30 : L30.length = 48 := by rw [hL30]; simp [stA]
      have I30 := Lib.hid (show ∀ k : Nat, k < 8 → ∀ W : World, (Instr.index 28 (.agg L30.toArray) (.int .i64 k)).run Try.prog W = .ok (.agg (shoL (sho f (16 + k * 6))).toArray) W from fun k hk W => by rw [hL30]; exact idx30 f k hk W)
      have hi30 : (Try.prog.info? 28).map (·.size) = some L30.length := by rw [hn30]; exact info30
      clear hL30 hlt hi I27 hR
      go_upto_region 11 with fail
      go_wp2_with (refine wpList_load_mid (by rfl) 28 _ (by rfl) w.heap.size 16 (by rfl) L30 _ hr30 Try.underlying28 (by rfl) hi30 ?_)
      clear hr30 hi30 hn30
      go_loopw [3, 53] (fun ov iv wr => ∃ i : Nat, i ≤ 8 ∧ iv = .int .i64 i ∧ Run (w.heap.size + 1) W1 wr ov (shotsB f i)) (fun _ iv _ => 8 - (intOf iv).toNat)
      case atStart => exact ⟨0, by omega, rfl, hR0⟩
      case round =>
        clear hR0
        obtain ⟨i, hi, rfl, hR⟩ := hrel
        obtain ⟨wp, rfl⟩ : ∃ wp : World, wp = wr := ⟨_, rfl⟩
        by_cases hlt : i < 8
        · have i1 : (0 : Int) ≤ (i : Int) := by omega
          have i2 : (i : Int) < 8 := by omega
          have hx := I30.out i hlt
          unfold shoL at hx
          simp only [sho] at hx
          go_upto_region 17 with fail
          · have hOn : onB (f (16 + i * 6)) = true := by assumption
            have HE := Lib.hid (show shotsB f (i + 1) = shotsB f i ++ [1] ++ runB f (16 + i * 6 + 1) 5 by rw [shotsB, onI, hOn]; rfl)
            have hlen := shotsB_len f i
            have HLEN := Lib.hid (show (shotsB f i).length ≤ 1000 by omega)
            have hsh : Blk ((wp.alloc (.cells #[.bool true, .int .i64 (f (16 + i * 6 + 1)), .int .i64 (f (16 + i * 6 + 2)), .int .i64 (f (16 + i * 6 + 3)), .int .i64 (f (16 + i * 6 + 4)), .int .i64 (f (16 + i * 6 + 5))] 27)).alloc (.cells #[.int .u8 1] 5)) wp.heap.size 27 #[.bool true, .int .i64 (f (16 + i * 6 + 1)), .int .i64 (f (16 + i * 6 + 2)), .int .i64 (f (16 + i * 6 + 3)), .int .i64 (f (16 + i * 6 + 4)), .int .i64 (f (16 + i * 6 + 5))] := (Blk.new wp _ _).alloc _
            have hR3 := (hR.alloc hz (.cells #[.bool true, .int .i64 (f (16 + i * 6 + 1)), .int .i64 (f (16 + i * 6 + 2)), .int .i64 (f (16 + i * 6 + 3)), .int .i64 (f (16 + i * 6 + 4)), .int .i64 (f (16 + i * 6 + 5))] 27)).alloc hz (.cells #[.int .u8 1] 5)
            have SRC : Src ((wp.alloc (.cells #[.bool true, .int .i64 (f (16 + i * 6 + 1)), .int .i64 (f (16 + i * 6 + 2)), .int .i64 (f (16 + i * 6 + 3)), .int .i64 (f (16 + i * 6 + 4)), .int .i64 (f (16 + i * 6 + 5))] 27)).alloc (.cells #[.int .u8 1] 5)) (some ⟨wp.heap.size + 1, 0, none⟩) 1 (ub [1]) := by
              have := src_new (wp.alloc (.cells #[.bool true, .int .i64 (f (16 + i * 6 + 1)), .int .i64 (f (16 + i * 6 + 2)), .int .i64 (f (16 + i * 6 + 3)), .int .i64 (f (16 + i * 6 + 4)), .int .i64 (f (16 + i * 6 + 5))] 27)) 5 1 (ub [1])
              simpa [ub] using this
            obtain ⟨i0, hi0, hz0, hz1, hz2⟩ := info_parts info8
            have X := Lib.hid hR3.out
            generalize shotsB f i = xs at *
            clear hx hR hlen
            try rw [hOn]
            go_upto_region 18 with (at_builtin; refine wpList_append_on _ (by rfl) _ _ 61 (by rfl) 5 i0 _ 1 1 Try.underlying61 hi0 hz0 hz1 hz2 (by rfl) (by omega) _ _ _ (by rfl) X.out (some ⟨wp.heap.size + 1, 0, none⟩) 1 1 (ub [1]) (by rfl) (by rfl) SRC (ub_one _) (by have := HLEN.out; simp only [maxLen]; omega) (by have := HLEN.out; omega) ?_; intro v' w' hon hg hv')
            have hR4 := hR3.app hz (ys := [1]) hon hg hv'
            have hsh4 := hsh.grown hg (fun e => On.blk_ne X.out hsh (by decide) e.symm)
            have c0 := hsh4.cell 0
            have c1 := hsh4.cell 1
            have c2 := hsh4.cell 2
            have c3 := hsh4.cell 3
            have c4 := hsh4.cell 4
            have c5 := hsh4.cell 5
            have hR5 := hR4.alloc hz (.cells (sArr f (16 + i * 6)) 2)
            have hg5 := Blk.new w' 2 (sArr f (16 + i * 6))
            have G5 := Lib.hid (show ∀ k, k < 5 → (sArr f (16 + i * 6))[k]? = some (.int .i64 (f (16 + i * 6 + 1 + k))) from fun k hk => sArr_get f _ hk)
            clear hsh hsh4 hR3 SRC X hon hg hv' hR4 hz0 hz1 hz2 hi0 hOn
            go_upto_region 19 with fail
            clear c0 c1 c2 c3 c4 c5
            obtain ⟨W5, hW5⟩ : ∃ W5, W5 = w'.alloc (.cells (sArr f (16 + i * 6)) 2) := ⟨_, rfl⟩
            rw [← hW5] at hR5 hg5
            generalize hgs : w'.heap.size = gs at *
            obtain ⟨A5, hA5⟩ : ∃ A, A = sArr f (16 + i * 6) := ⟨_, rfl⟩
            rw [← hA5] at hg5 G5
            unfold sArr at hW5
            rw [← hW5]
            clear hW5 hgs hA5
            go_wp2_with fail
            go_loopw [3, 74] (fun ov kv wr => ∃ k : Nat, k ≤ 5 ∧ kv = .int .i64 k ∧ Run (w.heap.size + 1) W1 wr ov (xs ++ [1] ++ runB f (16 + i * 6 + 1) k) ∧ Blk wr gs 2 A5) (fun _ kv _ => 5 - (intOf kv).toNat)
            case atStart => exact ⟨0, by omega, rfl, by simpa [runB] using hR5, hg5⟩
            case round =>
              clear hR5 hg5
              obtain ⟨k, hk, rfl, hR, hg⟩ := hrel
              by_cases hlk : k < 5
              · have k1 : (0 : Int) ≤ (k : Int) := by omega
                have k2 : (k : Int) < 5 := by omega
                have ck := (hg.cell k).trans (G5.out k hlk)
                have hrl := runB_len f (16 + i * 6 + 1) k
                have p := Lib.hid (fun v (h : Out wr v (xs ++ [1] ++ runB f (16 + i * 6 + 1) k)) => put_more wr v _ (f (16 + i * 6 + 1 + k)) h (by have := HLEN.out; rw [List.length_append, List.length_append]; simp; omega))
                have HR := Lib.hid hR
                have HG := Lib.hid hg
                have HK := Lib.hid (show xs ++ [1] ++ runB f (16 + i * 6 + 1) (k + 1) = xs ++ [1] ++ runB f (16 + i * 6 + 1) k ++ be8 (f (16 + i * 6 + 1 + k)) by simp [runB, List.append_assoc])
                clear hR hg hrl
                go_wp2_with fail
                refine (p.out _ HR.out.out).mono ?_
                rintro e W6 ⟨v6, rfl, o6, t6, g6⟩
                rw [← HK.out] at o6
                have hR6 := HR.out.put hz o6 t6 g6
                have hg6 := HG.out.touch t6 (On.blk_ne HR.out.out HG.out (by decide))
                clear o6 t6 g6 p
                go_wp2_with fail
                go_roundw
                case rel => exact ⟨k + 1, by omega, by go_num, hR6, hg6⟩
                case measure => simp [intOf]; omega
              · obtain rfl : k = 5 := by omega
                rw [← HE.out] at hR
                go_wp2_with fail
                go_roundw
                case rel => exact ⟨i + 1, by omega, by go_num, hR⟩
                case measure => simp [intOf]; omega
          · have hOn : onB (f (16 + i * 6)) = false := by assumption
            have HE := Lib.hid (show shotsB f (i + 1) = shotsB f i ++ [0] ++ runB f (16 + i * 6 + 1) 5 by rw [shotsB, onI, hOn]; rfl)
            have hlen := shotsB_len f i
            have HLEN := Lib.hid (show (shotsB f i).length ≤ 1000 by omega)
            have hsh : Blk ((wp.alloc (.cells #[.bool false, .int .i64 (f (16 + i * 6 + 1)), .int .i64 (f (16 + i * 6 + 2)), .int .i64 (f (16 + i * 6 + 3)), .int .i64 (f (16 + i * 6 + 4)), .int .i64 (f (16 + i * 6 + 5))] 27)).alloc (.cells #[.int .u8 0] 5)) wp.heap.size 27 #[.bool false, .int .i64 (f (16 + i * 6 + 1)), .int .i64 (f (16 + i * 6 + 2)), .int .i64 (f (16 + i * 6 + 3)), .int .i64 (f (16 + i * 6 + 4)), .int .i64 (f (16 + i * 6 + 5))] := (Blk.new wp _ _).alloc _
            have hR3 := (hR.alloc hz (.cells #[.bool false, .int .i64 (f (16 + i * 6 + 1)), .int .i64 (f (16 + i * 6 + 2)), .int .i64 (f (16 + i * 6 + 3)), .int .i64 (f (16 + i * 6 + 4)), .int .i64 (f (16 + i * 6 + 5))] 27)).alloc hz (.cells #[.int .u8 0] 5)
            have SRC : Src ((wp.alloc (.cells #[.bool false, .int .i64 (f (16 + i * 6 + 1)), .int .i64 (f (16 + i * 6 + 2)), .int .i64 (f (16 + i * 6 + 3)), .int .i64 (f (16 + i * 6 + 4)), .int .i64 (f (16 + i * 6 + 5))] 27)).alloc (.cells #[.int .u8 0] 5)) (some ⟨wp.heap.size + 1, 0, none⟩) 1 (ub [0]) := by
              have := src_new (wp.alloc (.cells #[.bool false, .int .i64 (f (16 + i * 6 + 1)), .int .i64 (f (16 + i * 6 + 2)), .int .i64 (f (16 + i * 6 + 3)), .int .i64 (f (16 + i * 6 + 4)), .int .i64 (f (16 + i * 6 + 5))] 27)) 5 1 (ub [0])
              simpa [ub] using this
            obtain ⟨i0, hi0, hz0, hz1, hz2⟩ := info_parts info8
            have X := Lib.hid hR3.out
            generalize shotsB f i = xs at *
            clear hx hR hlen
            try rw [hOn]
            go_upto_region 18 with (at_builtin; refine wpList_append_on _ (by rfl) _ _ 61 (by rfl) 5 i0 _ 1 1 Try.underlying61 hi0 hz0 hz1 hz2 (by rfl) (by omega) _ _ _ (by rfl) X.out (some ⟨wp.heap.size + 1, 0, none⟩) 1 1 (ub [0]) (by rfl) (by rfl) SRC (ub_one _) (by have := HLEN.out; simp only [maxLen]; omega) (by have := HLEN.out; omega) ?_; intro v' w' hon hg hv')
            have hR4 := hR3.app hz (ys := [0]) hon hg hv'
            have hsh4 := hsh.grown hg (fun e => On.blk_ne X.out hsh (by decide) e.symm)
            have c0 := hsh4.cell 0
            have c1 := hsh4.cell 1
            have c2 := hsh4.cell 2
            have c3 := hsh4.cell 3
            have c4 := hsh4.cell 4
            have c5 := hsh4.cell 5
            have hR5 := hR4.alloc hz (.cells (sArr f (16 + i * 6)) 2)
            have hg5 := Blk.new w' 2 (sArr f (16 + i * 6))
            have G5 := Lib.hid (show ∀ k, k < 5 → (sArr f (16 + i * 6))[k]? = some (.int .i64 (f (16 + i * 6 + 1 + k))) from fun k hk => sArr_get f _ hk)
            clear hsh hsh4 hR3 SRC X hon hg hv' hR4 hz0 hz1 hz2 hi0 hOn
            go_upto_region 19 with fail
            clear c0 c1 c2 c3 c4 c5
            obtain ⟨W5, hW5⟩ : ∃ W5, W5 = w'.alloc (.cells (sArr f (16 + i * 6)) 2) := ⟨_, rfl⟩
            rw [← hW5] at hR5 hg5
            generalize hgs : w'.heap.size = gs at *
            obtain ⟨A5, hA5⟩ : ∃ A, A = sArr f (16 + i * 6) := ⟨_, rfl⟩
            rw [← hA5] at hg5 G5
            unfold sArr at hW5
            rw [← hW5]
            clear hW5 hgs hA5
            go_wp2_with fail
            go_loopw [3, 74] (fun ov kv wr => ∃ k : Nat, k ≤ 5 ∧ kv = .int .i64 k ∧ Run (w.heap.size + 1) W1 wr ov (xs ++ [0] ++ runB f (16 + i * 6 + 1) k) ∧ Blk wr gs 2 A5) (fun _ kv _ => 5 - (intOf kv).toNat)
            case atStart => exact ⟨0, by omega, rfl, by simpa [runB] using hR5, hg5⟩
            case round =>
              clear hR5 hg5
              obtain ⟨k, hk, rfl, hR, hg⟩ := hrel
              by_cases hlk : k < 5
              · have k1 : (0 : Int) ≤ (k : Int) := by omega
                have k2 : (k : Int) < 5 := by omega
                have ck := (hg.cell k).trans (G5.out k hlk)
                have hrl := runB_len f (16 + i * 6 + 1) k
                have p := Lib.hid (fun v (h : Out wr v (xs ++ [0] ++ runB f (16 + i * 6 + 1) k)) => put_more wr v _ (f (16 + i * 6 + 1 + k)) h (by have := HLEN.out; rw [List.length_append, List.length_append]; simp; omega))
                have HR := Lib.hid hR
                have HG := Lib.hid hg
                have HK := Lib.hid (show xs ++ [0] ++ runB f (16 + i * 6 + 1) (k + 1) = xs ++ [0] ++ runB f (16 + i * 6 + 1) k ++ be8 (f (16 + i * 6 + 1 + k)) by simp [runB, List.append_assoc])
                clear hR hg hrl
                go_wp2_with fail
                refine (p.out _ HR.out.out).mono ?_
                rintro e W6 ⟨v6, rfl, o6, t6, g6⟩
                rw [← HK.out] at o6
                have hR6 := HR.out.put hz o6 t6 g6
                have hg6 := HG.out.touch t6 (On.blk_ne HR.out.out HG.out (by decide))
                clear o6 t6 g6 p
                go_wp2_with fail
                go_roundw
                case rel => exact ⟨k + 1, by omega, by go_num, hR6, hg6⟩
                case measure => simp [intOf]; omega
              · obtain rfl : k = 5 := by omega
                rw [← HE.out] at hR
                go_wp2_with fail
                go_roundw
                case rel => exact ⟨i + 1, by omega, by go_num, hR⟩
                case measure => simp [intOf]; omega
        · obtain rfl : i = 8 := by omega
          have hSp := hR.sb HS.out (by omega)
          have hlen := shotsB_len f 8
          have m0 := hSp.score (i := 0) (by omega)
          have m1 := hSp.score (i := 1) (by omega)
          rw [Nat.add_zero] at m0
          rw [show 64 + 1 = 65 from rfl] at m1
          have hbp := hSp.lt
          have hlow := hR.low
          have HR := Lib.hid hR
          have p1 := Lib.hid (fun W v xs (h : Out W v xs) (hl : xs.length ≤ 900000) => put_more W v xs (f 64) h hl)
          have p2 := Lib.hid (fun W v xs (h : Out W v xs) (hl : xs.length ≤ 900000) => put_more W v xs (f 65) h hl)
          have hl1 : (shotsB f 8).length ≤ 800000 := by omega
          have HEND := Lib.hid (show stB f = shotsB f 8 ++ be8 (f 64) ++ be8 (f 65) from rfl)
          generalize shotsB f 8 = xs at *
          have oR := Lib.hid hR.out
          clear hR hSp hlen hlt hi I30
          go_upto_region 24 with fail
          go_region_held3 (fun w' => w'.cell? ⟨w.heap.size, 64, none⟩ = some (.int .i64 (f 64)) ∧ w'.cell? ⟨w.heap.size, 65, none⟩ = some (.int .i64 (f 65))) (first | go_keep | exact ⟨k0, k1⟩ | exact ⟨l0, l1⟩)
            (first
              | (go_at_call_of 69 (IntKind.u64.wrap (f 64)); refine (p1.out _ _ _ (by exact On.drew oR.out) (by omega)).mono ?_; rintro e w5 ⟨v5, rfl, o5, t5, g5⟩; have k0 : w5.cell? ⟨w.heap.size, 64, none⟩ = some (.int .i64 (f 64)) := (t5.cell (p := ⟨w.heap.size, 64, none⟩) hbp (fun hk => by have := hlow _ hk; simp at this; omega)).trans m0; have k1 : w5.cell? ⟨w.heap.size, 65, none⟩ = some (.int .i64 (f 65)) := (t5.cell (p := ⟨w.heap.size, 65, none⟩) hbp (fun hk => by have := hlow _ hk; simp at this; omega)).trans m1)
              | (go_at_call_of 69 (IntKind.u64.wrap (f 65)); refine (p2.out _ v5 _ o5 (by rw [List.length_append, be8_len]; omega)).mono ?_; rintro e w6 ⟨v6, rfl, o6, t6, g6⟩; have l0 : w6.cell? ⟨w.heap.size, 64, none⟩ = some (.int .i64 (f 64)) := (t6.cell (p := ⟨w.heap.size, 64, none⟩) (Nat.lt_of_lt_of_le hbp t5.size) (fun hk => (g5 _ hk).elim (fun e => by have := hlow _ e; simp at this; omega) (fun e => by simp at e; omega))).trans k0; have l1 : w6.cell? ⟨w.heap.size, 65, none⟩ = some (.int .i64 (f 65)) := (t6.cell (p := ⟨w.heap.size, 65, none⟩) (Nat.lt_of_lt_of_le hbp t5.size) (fun hk => (g5 _ hk).elim (fun e => by have := hlow _ e; simp at this; omega) (fun e => by simp at e; omega))).trans k1))
          have R5 := ((HR.out.drewN 1).put hz o5 t5 g5).put hz o6 t6 g6
          rw [← HEND.out] at R5
          clear k0 k1 l0 l1 m0 m1 o5 t5 g5 o6 t6 g6 p1 p2
          go_wp2_with fail
          go_ret
          exact ⟨_, rfl, R5.out, HB.out.trans (R5.below.mono (by omega)), fun g hg => by have := R5.low g hg; omega⟩
end Go.Proofs.Ytlhoffhagfhbcaa.Gm
