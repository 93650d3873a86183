/-
  The walks of game.New, game.Play.
-/
import Derived.Test.YtblnfkhaicjeaaaGstep
import Derived.Test.YtblnfkhaicjeaaaEql
namespace Go.Proofs.Ytblnfkhaicjeaaa.Gm
open Go.RowKit Go.Sort Go.Proofs.Ytblnfkhaicjeaaa.Num
set_option linter.all false

/-- A block stored whole, as an equation that the walk rewrites by. -/
theorem store_run {P : Program} (w : World) (g : Nat) (t : TypeId) (old : Array Value) (cells : List Value) (hg : Blk w g t old) (hs : old.size = cells.length) (h1 : ∀ v ∈ cells, v.oneCell' = true) :
    ∃ w', (storeCells ⟨g, 0, none⟩ cells).run P w = .ok () w' ∧ Blk w' g t cells.toArray ∧ Touch (fun k => k = g) w w' := by
  have := run_storeCells_from (P := P) g t cells 0 old w hg (by omega) h1
  refine ⟨_, this, ?_, touch_setRow w g _⟩
  have e : (old.toList.take 0 ++ cells).toArray = cells.toArray := by simp
  rw [e]
  exact hg.setRow _
def bornF (seed : Int) : Nat → F
  | 0 => put zF 1 seed
  | i + 1 => setB (bornF seed i) (2 + i * 7) (bornB i)
theorem newF_eq (seed : Int) : newF seed = bornF seed 2 := rfl
/-- A state's cells as a letter: what the walk need know. -/
structure Let (C : Array Value) (f : F) : Prop where
  eq : C = stA f
  size : C.size = 66
  one : C.all (·.oneCell') = true
  info : (Try.prog.info? 33).map (·.size) = some C.size
theorem let_of (f : F) : ∃ C, Let C f := ⟨_, rfl, stA_size f, stA_one f, infoStf f⟩
theorem Let.blk {C : Array Value} {f : F} {w : World} {g : Nat} {t : TypeId} (h : Let C f) (hS : SB w g t f) : Blk w g t C := by rw [h.eq]; exact hS
theorem Let.sb {C : Array Value} {f : F} {w : World} {g : Nat} {t : TypeId} (h : Let C f) (hS : Blk w g t C) : SB w g t f := by rw [h.eq] at hS; exact hS

set_option maxRecDepth 100000 in
set_option maxHeartbeats 4000000 in
theorem new_any (w : World) (seed : Int) (h0 : 0 ≤ seed) (h1 : seed < 4294967296) :
    Calls Try.prog 16 #[.int .u32 seed] w fun e w' => e = .returned (stV (newF seed)) ∧ Below w.heap.size w w' := by
  obtain ⟨W1, hW1⟩ : ∃ W1, W1 = w.alloc (.cells Try.zeroCells33 33) := ⟨_, rfl⟩
  have hR : Blk W1 w.heap.size 33 Try.zeroCells33 := by rw [hW1]; exact Blk.new _ _ _
  have hB1 : Below w.heap.size w W1 := by rw [hW1]; exact (Below.refl _ w).alloc (Nat.le_refl _) _
  have hs1 : W1.heap.size = w.heap.size + 1 := by rw [hW1]; simp
  have hR2 := hR.alloc (.cells Try.zeroCells33 33)
  have hX2 : Blk (W1.alloc (.cells Try.zeroCells33 33)) W1.heap.size 33 Try.zeroCells33 := Blk.new _ _ _
  have hB2 : Below w.heap.size w (W1.alloc (.cells Try.zeroCells33 33)) := hB1.alloc (by omega) _
  obtain ⟨C, hC⟩ : ∃ C, C = Try.zeroCells33.setIfInBounds 1 (.int .u32 seed) := ⟨_, rfl⟩
  have LC : Let C (put zF 1 seed) := by
    have e : C = stA (put zF 1 seed) := by rw [hC, ← stA_zero]; exact stA_put zF (by omega) seed
    rw [e]
    exact ⟨rfl, stA_size _, stA_one _, infoStf _⟩
  have hz66 : Try.zeroCells33.size = 66 := by rw [← stA_zero]; exact stA_size _
  have hone := LC.one
  have hinf := LC.info
  have LC' := Lib.hid LC
  have HC := Lib.hid hC.symm
  have HINF := Lib.hid hinf
  clear hinf
  have HS1 := Lib.hid hs1
  clear hs1 LC hB1 hR hC
  go_enter Try.func16, Try.ntmps16
  go_upto_region 1 with fail
  rw [← hW1]
  clear hW1
  obtain ⟨W3, hrun, hX3, hT3⟩ := store_run (P := Try.prog) _ W1.heap.size _ _ (Try.zeroCells33.toList.set 1 (.int .u32 seed)) hX2 (by simp) (fun v hv => (Array.all_eq_true_iff_forall_mem.1 hone) v (by rw [← HC.out, ← Array.mem_toList_iff, Array.toList_setIfInBounds]; exact hv))
  have hX4 : Blk W3 W1.heap.size 33 C := by
    have e : (Try.zeroCells33.toList.set 1 (.int .u32 seed)).toArray = C := by rw [← HC.out]; apply Array.ext'; simp
    rw [← e]
    exact hX3
  have hR3 : Blk W3 w.heap.size 33 Try.zeroCells33 := hR2.touch hT3 (by have := HS1.out; omega)
  have hB3 : Below w.heap.size w W3 := hB2.trans (hT3.below hB2.size (fun k hk => by have := HS1.out; omega))
  clear hX3 hX2 hR2 hT3 hB2 hone
  go_upto_region 2 with fail
  rw [HS1.out] at *
  clear hrun
  have S0 : SB W3 (w.heap.size + 1) 33 (bornF seed 0) := LC'.out.sb hX4
  clear hX4
  go_wp2_with fail
  go_loopw [7] (fun iv wr => ∃ i : Nat, i ≤ 2 ∧ iv = .int .i64 i ∧ SB wr (w.heap.size + 1) 33 (bornF seed i) ∧ Blk wr w.heap.size 33 Try.zeroCells33 ∧ Below w.heap.size w wr) (fun iv _ => 2 - (intOf iv).toNat)
  case atStart => exact ⟨0, by omega, rfl, S0, hR3, hB3⟩
  case round =>
    clear S0 hR3 hB3
    obtain ⟨i, hi, rfl, hS, hR, hB⟩ := hrel
    by_cases hlt : i < 2
    · have i1 : (0 : Int) ≤ (i : Int) := by omega
      have i2 : (i : Int) < 2 := by omega
      have p := Lib.hid (born_any wr i hlt)
      have HE := Lib.hid (show bornF seed (i + 1) = setB (bornF seed i) (2 + i * 7) (bornB i) from rfl)
      have HL := Lib.hid hlt
      have HS := Lib.hid hS
      have HR := Lib.hid hR
      have HB := Lib.hid hB
      clear hS hR hB hlt
      go_wp2_with fail
      refine p.out.mono ?_
      rintro e w2 ⟨rfl, hb2⟩
      have hS2 := HS.out.below hb2 HS.out.lt
      have hR2 := HR.out.below hb2 HR.out.lt
      have hB2 := HB.out.trans (hb2.mono HB.out.size)
      have ht := hS2.there (o := 2 + i * 7) (n := 7) (by have := HL.out; omega)
      have hS3 := hS2.setBody HL.out (bornB i)
      have hT3 : Touch (fun k => k = w.heap.size + 1) w2 (w2.setCells (w.heap.size + 1) (2 + i * 7) (bodL (bornB i))) := touch_setCells (S := fun k => k = w.heap.size + 1) (Touch.refl _ _) _ (.inl rfl) _ _
      have hR3 := hR2.touch hT3 (by omega)
      have hB3 := hB2.trans (hT3.below hB2.size (fun k hk => by omega))
      rw [← HE.out] at hS3
      clear hS2 hR2 hB2 hT3 hb2 p
      go_upto_region 6 with (refine wpList_store_mid (by rfl) 26 _ _ (by rfl) (w.heap.size + 1) (2 + i * 7) (bodL (bornB i)).toArray (by rfl) (by rfl) ht infoB (bodL_one _) ?_)
      clear ht
      have hlt := HL.out
      go_wp2_with fail
      go_roundw
      case rel => exact ⟨i + 1, by omega, by go_num, hS3, hR3, hB3⟩
      case measure => simp [intOf]; omega
    · obtain rfl : i = 2 := by omega
      rw [← newF_eq] at hS
      obtain ⟨C9, LC9⟩ := let_of (newF seed)
      have hS9 := LC9.blk hS
      have hzs : Try.zeroCells33.size = C9.size := by rw [LC9.size, ← stA_zero]; exact stA_size _
      have hif := LC9.info
      have hone := LC9.one
      have HC9 := Lib.hid LC9.eq
      clear LC9 hS hlt
      go_upto_region 7 with fail
      go_wp2_with (first | (refine wpList_load_blk (by rfl) 33 _ (by rfl) (w.heap.size + 1) (by rfl) _ C9 _ hS9 Try.underlying33 (by rfl) hif ?_) | (refine wpList_store_blk (by rfl) 33 _ _ (by rfl) w.heap.size C9 (by rfl) (by rfl) _ _ hR hif hzs hone ?_; intro W6 hd6 ht6))
      refine bodyPost_ret (v := .agg C9) (results_blk Try.results16 _ _ w.heap.size _ _ _ (by rfl) hd6 Try.underlying33 (by rfl) hif) rfl ⟨by rw [HC9.out]; rfl, ?_⟩
      exact hB.trans (ht6.below hB.size (fun k hk => by omega))

/-! ### Play -/
def inA (ls : List (Nat × Nat)) (j : Nat) : Nat → Nat := fun i => if i = 0 then (ls.getD j (0, 0)).1 else (ls.getD j (0, 0)).2
/-- A list of both players' inputs that lies in memory. -/
def InRow (w : World) (a : Option Addr) (ls : List (Nat × Nat)) : Prop :=
  (∀ x ∈ ls, x.1 < 65536 ∧ x.2 < 65536) ∧ (0 < ls.length → ∃ b off, a = some ⟨b, off, none⟩ ∧ b < w.heap.size ∧ ∀ j, j < ls.length → w.cell? ⟨b, off + j * 2, none⟩ = some (.int .u16 (inA ls j 0)) ∧ w.cell? ⟨b, off + j * 2 + 1, none⟩ = some (.int .u16 (inA ls j 1)))
theorem InRow.below {w w' : World} {a : Option Addr} {ls : List (Nat × Nat)} (h : InRow w a ls) (hb : Below w.heap.size w w') : InRow w' a ls :=
  ⟨h.1, fun hp => by
    obtain ⟨b, off, e, hlt, hc⟩ := h.2 hp
    exact ⟨b, off, e, Nat.lt_of_lt_of_le hlt hb.size, fun j hj => ⟨(hb.cell (p := ⟨b, off + j * 2, none⟩) hlt).trans (hc j hj).1, (hb.cell (p := ⟨b, off + j * 2 + 1, none⟩) hlt).trans (hc j hj).2⟩⟩⟩
theorem inA_lt {ls : List (Nat × Nat)} (h : ∀ x ∈ ls, x.1 < 65536 ∧ x.2 < 65536) (j : Nat) : ∀ i, i < 2 → inA ls j i < 65536 := by
  intro i hi
  have hx : (ls.getD j (0, 0)).1 < 65536 ∧ (ls.getD j (0, 0)).2 < 65536 := by
    by_cases hj : j < ls.length
    · rw [List.getD_eq_getElem?_getD, List.getElem?_eq_getElem hj]
      exact h _ (List.getElem_mem hj)
    · rw [List.getD_eq_getElem?_getD, List.getElem?_eq_none (by omega)]
      exact ⟨by decide, by decide⟩
  unfold inA
  split
  · exact hx.1
  · exact hx.2
def playF (f : F) (ls : List (Nat × Nat)) : Nat → F
  | 0 => f
  | k + 1 => stepF (playF f ls k) (inA ls k)
theorem Inv.play {fr sc : Int} {f : F} (h : Inv fr sc f) (ls : List (Nat × Nat)) : ∀ k : Nat, Inv (fr + k) (sc + 8 * k) (playF f ls k)
  | 0 => by simpa [playF] using h
  | k + 1 => by
    have := (Inv.play h ls k).step (inA ls k)
    have e1 : fr + ((k + 1 : Nat) : Int) = fr + (k : Int) + 1 := by omega
    have e2 : sc + 8 * ((k + 1 : Nat) : Int) = sc + 8 * (k : Int) + 8 := by omega
    rw [e1, e2]
    exact this

set_option maxRecDepth 100000 in
set_option maxHeartbeats 4000000 in
theorem play_any (w : World) (f : F) (fr sc : Int) (a : Option Addr) (c : Nat) (ls : List (Nat × Nat)) (hr : InRow w a ls) (hI : Inv fr sc f) (hl : ls.length ≤ 281474976710656) (hsc : sc ≤ 281474976710656) (hfr : fr ≤ 281474976710656) (hfr0 : 0 ≤ fr) :
    Calls Try.prog 18 #[stV f, .slice a ls.length c] w fun e w' => e = .returned (stV (playF f ls ls.length)) ∧ Below w.heap.size w w' := by
  obtain ⟨W1, hW1⟩ : ∃ W1, W1 = (w.alloc (.cells (stA f) 33)).alloc (.cells Try.zeroCells33 33) := ⟨_, rfl⟩
  have hS : SB W1 w.heap.size 33 f := by rw [hW1]; exact (SB.new w _ f).alloc _
  have hR : Blk W1 (w.heap.size + 1) 33 Try.zeroCells33 := by
    rw [hW1]
    have := Blk.new (w.alloc (.cells (stA f) 33)) 33 Try.zeroCells33
    simpa using this
  have hB : Below w.heap.size w W1 := by rw [hW1]; exact ((Below.refl _ w).alloc (Nat.le_refl _) _).alloc (by simp) _
  have hz : w.heap.size + 2 ≤ W1.heap.size := by rw [hW1]; simp
  have HR := Lib.hid hr
  have HI := Lib.hid hI
  unfold stV
  clear hr hI
  go_enter Try.func18, Try.ntmps18
  go_upto_region 1 with fail
  rw [← hW1]
  clear hW1
  go_wp2_with fail
  go_loopw [9] (fun iv wr => ∃ k : Nat, k ≤ ls.length ∧ iv = .int .i64 k ∧ SB wr w.heap.size 33 (playF f ls k) ∧ Blk wr (w.heap.size + 1) 33 Try.zeroCells33 ∧ w.heap.size + 2 ≤ wr.heap.size ∧ Below w.heap.size w wr) (fun iv _ => ls.length - (intOf iv).toNat)
  case atStart => exact ⟨0, by omega, rfl, hS, hR, hz, hB⟩
  case round =>
    clear hS hR hB hz
    obtain ⟨k, hk, rfl, hS, hR, hz, hB⟩ := hrel
    by_cases hlt : k < ls.length
    · obtain ⟨gb, ob, rfl, hgb, hcb⟩ := (HR.out.below hB).2 (by omega)
      obtain ⟨c0, c1⟩ := hcb k hlt
      have i0 : (k : Int) < (ls.length : Int) := by omega
      have i1 : (0 : Int) ≤ (k : Int) := by omega
      have hInv := HI.out.play ls k
      have HE := Lib.hid (show playF f ls (k + 1) = stepF (playF f ls k) (inA ls k) from rfl)
      have pS := Lib.hid (fun W => step_any W (playF f ls k) _ _ (inA ls k) (inA_lt HR.out.1 k) hInv (by omega) (by omega) (by omega))
      unfold inV stV at pS
      obtain ⟨C, LC⟩ := let_of (playF f ls k)
      rw [← LC.eq] at pS
      obtain ⟨D, LD⟩ := let_of (stepF (playF f ls k) (inA ls k))
      rw [← LD.eq] at pS
      have hS1 := (LC.blk hS).alloc (.cells #[.int .u16 (inA ls k 0), .int .u16 (inA ls k 1)] 48)
      have hR1 := hR.alloc (.cells #[.int .u16 (inA ls k 0), .int .u16 (inA ls k 1)] 48)
      have hB1 : Below w.heap.size w (wr.alloc (.cells #[.int .u16 (inA ls k 0), .int .u16 (inA ls k 1)] 48)) := hB.alloc hB.size _
      have hb1 : Blk (wr.alloc (.cells #[.int .u16 (inA ls k 0), .int .u16 (inA ls k 1)] 48)) wr.heap.size 48 #[.int .u16 (inA ls k 0), .int .u16 (inA ls k 1)] := Blk.new _ _ _
      have hz1 : w.heap.size + 2 ≤ (wr.alloc (.cells #[.int .u16 (inA ls k 0), .int .u16 (inA ls k 1)] 48)).heap.size := by simp; omega
      have hif := LC.info
      have hCD : C.size = D.size := by rw [LC.size, LD.size]
      have honeD := LD.one
      have hifD := LD.info
      have HD := Lib.hid LD
      have HCD := Lib.hid hCD
      clear hcb hInv hS hR hB LC LD hCD hgb
      generalize inA ls k 0 = n0 at *
      generalize inA ls k 1 = n1 at *
      go_upto_region 4 with fail
      clear c0 c1
      generalize wr.heap.size = rb at *
      generalize wr.alloc (.cells #[.int .u16 n0, .int .u16 n1] 48) = W2 at *
      have d0 := hb1.cell 0
      have d1 := hb1.cell 1
      go_wp2_with (refine wpList_load_blk (by rfl) 33 _ (by rfl) w.heap.size (by rfl) _ C _ hS1 Try.underlying33 (by rfl) hif ?_)
      refine (pS.out _).mono ?_
      rintro e w3 ⟨rfl, hb3⟩
      have hS3 := hS1.below hb3 hS1.lt
      have hR3 := hR1.below hb3 hR1.lt
      have hB3 := hB1.trans (hb3.mono hB1.size)
      have hz3 := Nat.le_trans hz1 hb3.size
      clear hS1 hR1 hB1 hb1 hb3 d0 d1 hz1 pS hif
      go_upto_region 5 with (refine wpList_store_blk (by rfl) 33 _ _ (by rfl) w.heap.size D (by rfl) (by rfl) _ C hS3 hifD HCD.out honeD ?_; intro W4 hS4 hT4)
      have hS5 := HD.out.sb hS4
      rw [← HE.out] at hS5
      have hz4 := hT4.size
      have hR4 := hR3.touch hT4 (by omega)
      have hB4 := hB3.trans (hT4.below hB3.size (fun k hk => by omega))
      clear hS3 hR3 hB3 hT4 hS4 HD HCD honeD hifD
      go_wp2_with fail
      go_roundw
      case rel => exact ⟨k + 1, by omega, by go_num, hS5, hR4, by omega, hB4⟩
      case measure => simp [intOf]; omega
    · obtain rfl : k = ls.length := by omega
      obtain ⟨C9, LC9⟩ := let_of (playF f ls ls.length)
      have hS9 := LC9.blk hS
      have hzs : Try.zeroCells33.size = C9.size := by rw [LC9.size, ← stA_zero]; exact stA_size _
      have hif := LC9.info
      have hone := LC9.one
      have HC9 := Lib.hid LC9.eq
      clear LC9 hS hlt
      go_upto_region 6 with fail
      go_wp2_with (first | (refine wpList_load_blk (by rfl) 33 _ (by rfl) w.heap.size (by rfl) _ C9 _ hS9 Try.underlying33 (by rfl) hif ?_) | (refine wpList_store_blk (by rfl) 33 _ _ (by rfl) (w.heap.size + 1) C9 (by rfl) (by rfl) _ _ hR hif hzs hone ?_; intro W6 hd6 ht6))
      refine bodyPost_ret (v := .agg C9) (results_blk Try.results18 _ _ (w.heap.size + 1) _ _ _ (by rfl) hd6 Try.underlying33 (by rfl) hif) rfl ⟨by rw [HC9.out], ?_⟩
      exact hB.trans (ht6.below hB.size (fun k hk => by omega))
end Go.Proofs.Ytblnfkhaicjeaaa.Gm
