/-
  The document's New.
-/
import Derived.Test.YtblnfkhaicjeaaaRmv
import Derived.Test.YtblnfkhaicjeaaaGnew
namespace Go.Proofs.Ytblnfkhaicjeaaa.Gm
open Go.RowKit Go.Sort Go.Proofs.Ytblnfkhaicjeaaa.Num
set_option linter.all false

theorem wpList_store_midw {ops : Array Oper} {rest : List Oper} {op : Oper} {a : Act} {w : World} {Q : Exit → Act → World → Prop} (hgd : op.guard = none) (ty : TypeId) (x y : Operand) (ho : op.op = .store ty x y)
    (b o : Nat) (cells : Array Value) (hx : a.eval x = .pointer (some ⟨b, o, none⟩)) (hy : a.eval y = .agg cells)
    (ht : w.there b o cells.size) (hi : (Try.prog.info? ty).map (·.size) = some cells.size) (h1 : cells.all (·.oneCell') = true) (w' : World) (hw : w.setCells b o cells.toList = w')
    (h : wpList Try.prog ops Q rest (a.put op.dst undef) w') : wpList Try.prog ops Q (op :: rest) a w :=
  wpList_store_mid hgd ty x y ho b o cells hx hy ht hi h1 (by rw [hw]; exact h)

set_option maxRecDepth 100000 in
set_option maxHeartbeats 4000000 in
theorem rnew_any (w : World) (seed : Int) (h0 : 0 ≤ seed) (h1 : seed < 4294967296) :
    Calls Try.prog 17 #[.int .u32 seed] w fun e w' => e = .returned (stV (newF seed)) ∧ Below w.heap.size w w' := by
  obtain ⟨W1, hW1⟩ : ∃ W1, W1 = (w.alloc (.cells Try.zeroCells33 33)).alloc (.cells Try.zeroCells33 33) := ⟨_, rfl⟩
  have hR : Blk W1 w.heap.size 33 Try.zeroCells33 := by rw [hW1]; exact (Blk.new _ _ _).alloc _
  have hS : SB W1 (w.heap.size + 1) 33 zF := by
    have : Blk W1 (w.heap.size + 1) 33 Try.zeroCells33 := by
      rw [hW1]
      have := Blk.new (w.alloc (.cells Try.zeroCells33 33)) 33 Try.zeroCells33
      simpa using this
    unfold SB
    rw [stA_zero]
    exact this
  have hB : Below w.heap.size w W1 := by rw [hW1]; exact ((Below.refl _ w).alloc (Nat.le_refl _) _).alloc (by simp) _
  have c1 : W1.cell? ⟨w.heap.size + 1, 1, none⟩ = some (.int .u32 0) := hS.seed
  have f1 := hS.fr 1
  have S2 := hS.set_ (j := 1) (by omega) seed
  rw [cv_seed] at S2
  have R2 := Blk.far hR (p := ⟨w.heap.size + 1, 1, none⟩) (by simp) (.int .u32 seed)
  have B2 := hB.setCell (p := ⟨w.heap.size + 1, 1, none⟩) (by simp) (.int .u32 seed)
  have pB0 := Lib.hid (fun W => rborn_any W 0 (by omega))
  have pB1 := Lib.hid (fun W => rborn_any W 1 (by omega))
  have HE := Lib.hid (show newF seed = setB (setB (put zF 1 seed) (2 + 0 * 7) (bornB 0)) (2 + 1 * 7) (bornB 1) from rfl)
  generalize bornB 0 = b0 at *
  generalize bornB 1 = b1 at *
  obtain ⟨v0, hv0', hw0⟩ : ∃ v0, v0 = (bodL b0).toArray ∧ bodV b0 = .agg v0 := ⟨_, rfl, rfl⟩
  obtain ⟨v1, hv1', hw1⟩ : ∃ v1, v1 = (bodL b1).toArray ∧ bodV b1 = .agg v1 := ⟨_, rfl, rfl⟩
  rw [hw0] at pB0
  rw [hw1] at pB1
  have Hv0 := Lib.hid hv0'
  have Hv1 := Lib.hid hv1'
  clear hv0' hv1' hw0 hw1
  have HS := Lib.hid S2
  have HR := Lib.hid R2
  have HB := Lib.hid B2
  clear hS hR hB S2 R2 B2
  go_enter Try.func17, Try.ntmps17
  go_upto_region 2 with fail
  rw [← hW1]
  clear hW1
  go_upto_region 3 with fail
  clear c1 f1
  generalize W1.setCell ⟨w.heap.size + 1, 1, none⟩ (.int .u32 seed) = W2 at *
  go_wp2_with fail
  refine (pB0.out _).mono ?_
  rintro e w3 ⟨rfl, b3⟩
  have S3 := HS.out.below b3 HS.out.lt
  have R3 := HR.out.below b3 HR.out.lt
  have B3 := HB.out.trans (b3.mono HB.out.size)
  go_wp2_with fail
  refine (pB1.out _).mono ?_
  rintro e w4 ⟨rfl, b4⟩
  have S4 := S3.below b4 S3.lt
  have R4 := R3.below b4 R3.lt
  have B4 := B3.trans (b4.mono B3.size)
  clear HS HR HB S3 R3 B3 b3 b4 pB0 pB1
  have hv0 := Hv0.out
  have hv1 := Hv1.out
  obtain ⟨w5, hw5⟩ : ∃ w5, w4.setCells (w.heap.size + 1) 2 (bodL b0) = w5 := ⟨_, rfl⟩
  obtain ⟨w6, hw6⟩ : ∃ w6, w5.setCells (w.heap.size + 1) 9 (bodL b1) = w6 := ⟨_, rfl⟩
  have ht : w4.there (w.heap.size + 1) 2 v0.size := by rw [hv0]; exact S4.there (o := 2) (n := 7) (by omega)
  have S5 : SB w5 (w.heap.size + 1) 33 (setB (put zF 1 seed) (2 + 0 * 7) b0) := by rw [← hw5]; exact S4.setBody (i := 0) (by omega) b0
  have T5 : Touch (fun k => k = w.heap.size + 1) w4 w5 := by rw [← hw5]; exact touch_setCells (S := fun k => k = w.heap.size + 1) (Touch.refl _ _) _ (.inl rfl) _ _
  have ht2 : w5.there (w.heap.size + 1) 9 v1.size := by rw [hv1]; exact S5.there (o := 9) (n := 7) (by omega)
  have S6 : SB w6 (w.heap.size + 1) 33 (setB (setB (put zF 1 seed) (2 + 0 * 7) b0) (2 + 1 * 7) b1) := by rw [← hw6]; exact S5.setBody (i := 1) (by omega) b1
  have T6 : Touch (fun k => k = w.heap.size + 1) w4 w6 := by rw [← hw6]; exact touch_setCells (S := fun k => k = w.heap.size + 1) T5 _ (.inl rfl) _ _
  have hw5' : RowKit.Hid (w4.setCells (w.heap.size + 1) 2 v0.toList = w5) := Lib.hid (by rw [hv0]; exact hw5)
  have hw6' : RowKit.Hid (w5.setCells (w.heap.size + 1) 9 v1.toList = w6) := Lib.hid (by rw [hv1]; exact hw6)
  have hi0 : (Try.prog.info? 26).map (·.size) = some v0.size := by rw [hv0]; exact infoB
  have hi1 : (Try.prog.info? 26).map (·.size) = some v1.size := by rw [hv1]; exact infoB
  have ho0 : v0.all (·.oneCell') = true := by rw [hv0]; exact bodL_one _
  have ho1 : v1.all (·.oneCell') = true := by rw [hv1]; exact bodL_one _
  have R6 := R4.touch T6 (by omega)
  have B6 := B4.trans (T6.below B4.size (fun k hk => by omega))
  rw [← HE.out] at S6
  clear S4 R4 B4 S5 T5 T6 hw5 hw6 hv0 hv1 Hv0 Hv1
  have Hi0 := Lib.hid hi0
  have Hi1 := Lib.hid hi1
  have Ho0 := Lib.hid ho0
  have Ho1 := Lib.hid ho1
  have Ht0 := Lib.hid ht
  have Ht1 := Lib.hid ht2
  clear hi0 hi1 ho0 ho1 ht ht2
  go_upto_region 4 with (first
    | (refine wpList_store_midw (w := w4) (by rfl) 26 _ _ (by rfl) (w.heap.size + 1) 2 v0 (by rfl) (by rfl) Ht0.out Hi0.out Ho0.out w5 hw5'.out ?_)
    | (refine wpList_store_midw (w := w5) (by rfl) 26 _ _ (by rfl) (w.heap.size + 1) 9 v1 (by rfl) (by rfl) Ht1.out Hi1.out Ho1.out w6 hw6'.out ?_)
    | fail)
  obtain ⟨C9, LC9⟩ := let_of (newF seed)
  have hS9 := LC9.blk S6
  have hzs : Try.zeroCells33.size = C9.size := by rw [LC9.size, ← stA_zero]; exact stA_size _
  have hif := LC9.info
  have hone := LC9.one
  have HC9 := Lib.hid LC9.eq
  clear LC9 S6
  go_wp2_with (first | (refine wpList_load_blk (by rfl) 33 _ (by rfl) (w.heap.size + 1) (by rfl) _ C9 _ hS9 Try.underlying33 (by rfl) hif ?_) | (refine wpList_store_blk (by rfl) 33 _ _ (by rfl) w.heap.size C9 (by rfl) (by rfl) _ _ R6 hif hzs hone ?_; intro W6 hd6 ht6))
  refine bodyPost_ret (v := .agg C9) (results_blk Try.results17 _ _ w.heap.size _ _ _ (by rfl) hd6 Try.underlying33 (by rfl) hif) rfl ⟨by rw [HC9.out]; rfl, ?_⟩
  exact B6.trans (ht6.below B6.size (fun k hk => by omega))
end Go.Proofs.Ytblnfkhaicjeaaa.Gm
