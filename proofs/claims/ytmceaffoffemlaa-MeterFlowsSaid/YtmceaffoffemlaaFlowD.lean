/-
  backstayref37: Last, Tick of a flow.
-/
import Derived.Test.YtmceaffoffemlaaFlowC
import Derived.Test.YtmceaffoffemlaaFlat
namespace Go.Proofs.Ytmceaffoffemlaa.Flow
open Go.RowKit
set_option linter.all false

def wv (t : Int) (lv : Value) (now peak all : Int) : Value := .agg #[.int .i64 t, lv, .int .i64 now, .int .i64 peak, .int .i64 all]
theorem drop_sum {L : List Int} {j : Nat} (h : j < L.length) : (L.drop (L.length - (j + 1))).sum = nth L (L.length - 1 - j) + (L.drop (L.length - j)).sum := by
  have e : L.length - (j + 1) = L.length - 1 - j := by omega
  rw [e, List.drop_eq_getElem_cons (by omega), List.sum_cons, Met.nth_get]
  congr 2
  have : L.length - 1 - j + 1 = L.length - j := by omega
  rw [this]
theorem drop_bd {L : List Int} (h : ∀ x ∈ L, 0 ≤ x) (k : Nat) : 0 ≤ (L.drop k).sum ∧ (L.drop k).sum ≤ L.sum := ⟨sum_nonneg _ (fun x hx => h x (List.mem_of_mem_drop hx)), sum_drop_le L k h⟩

set_option maxRecDepth 100000 in
set_option maxHeartbeats 4000000 in
theorem ref_last (w : World) (t : Nat) (a : Option Addr) (c : Nat) (L : List Int) (now peak all : Int) (hr : Row .i64 w a L.length L) (hp : ∀ x ∈ L, 0 ≤ x) (hs : L.sum ≤ 4611686018427387904) (hl : L.length ≤ 1000) :
    Calls Try.prog 34 #[wv t (.slice a L.length c) now peak all] w fun e w' => e = .returned (.tuple #[.int .i64 (last t L).sum, .int .i64 (last t L).length]) ∧ Below w.heap.size w w' := by
  unfold wv
  have HB := drop_bd hp
  go_enter Try.func34, Try.ntmps34
  go_wp2_with fail
  have hbx : Blk (w.alloc (.cells #[.int .i64 t, .slice a L.length c, .int .i64 now, .int .i64 peak, .int .i64 all] 58)) w.heap.size 58 #[.int .i64 t, .slice a L.length c, .int .i64 now, .int .i64 peak, .int .i64 all] := Blk.new _ _ _
  have hr1 := Lib.hid (hr.below ((Below.refl _ w).alloc (Nat.le_refl _) (.cells #[.int .i64 t, .slice a L.length c, .int .i64 now, .int .i64 peak, .int .i64 all] 58)))
  have hB1 : Below w.heap.size w (w.alloc (.cells #[.int .i64 t, .slice a L.length c, .int .i64 now, .int .i64 peak, .int .i64 all] 58)) := (Below.refl _ w).alloc (Nat.le_refl _) _
  clear hr
  generalize w.alloc (.cells #[.int .i64 t, .slice a L.length c, .int .i64 now, .int .i64 peak, .int .i64 all] 58) = w1 at *
  have q0 := hbx.cell 0
  have q1 := hbx.cell 1
  simp only [List.getElem?_toArray, List.getElem?_cons_succ, List.getElem?_cons_zero] at q0 q1
  clear hbx
  have hw0 : IntKind.i64.wrap ((L.length : Int) - 1) = (L.length : Int) - 1 := IntWalk.i64_in _ (by omega)
  go_loopw [4, 5, 6] (fun nv jv iv wr => ∃ j : Nat, j ≤ L.length ∧ j ≤ t ∧ nv = .int .i64 (L.drop (L.length - j)).sum ∧ jv = .int .i64 j ∧ iv = .int .i64 ((L.length : Int) - 1 - j) ∧ wr = w1) (fun _ jv _ _ => L.length - (intOf jv).toNat)
  case atStart => exact ⟨0, by omega, by omega, by simp, rfl, by simp, rfl⟩
  case round =>
    obtain ⟨j, hj, hjt, rfl, rfl, rfl, rfl⟩ := hrel
    by_cases hlt : j < L.length
    · have g0 : (0 : Int) ≤ (L.length : Int) - 1 - (j : Int) := by omega
      by_cases hlt2 : j < t
      · have g1 : (j : Int) < (t : Int) := by omega
        obtain ⟨i, hi⟩ : ∃ i : Nat, i = L.length - 1 - j := ⟨_, rfl⟩
        have hii : (L.length : Int) - 1 - (j : Int) = (i : Int) := by omega
        obtain ⟨gb, ob, rfl, hgb, hcb⟩ := hr1.out.2 (by omega)
        have ci := hcb i (by omega)
        have hd := drop_sum hlt
        rw [← hi] at hd
        have HD := Lib.hid hd
        clear hd
        have b1 := HB (L.length - j)
        have b2 := HB (L.length - (j + 1))
        rw [HD.out] at b2
        rw [hii]
        have i1 : (0 : Int) ≤ (i : Int) := by omega
        have i2 : (i : Int) < (L.length : Int) := by omega
        have HI := Lib.hid hi
        have HII := Lib.hid hii
        have hww : IntKind.i64.wrap ((i : Int) - 1) = (i : Int) - 1 := IntWalk.i64_in _ (by omega)
        clear hi hii hcb g0 HB
        generalize (L.drop (L.length - j)).sum = A at *
        generalize nth L i = v at *
        have hw1 : IntKind.i64.wrap (A + v) = v + A := by rw [IntWalk.i64_in _ (by omega)]; omega
        go_wp2_with fail
        go_roundw
        case rel =>
          refine ⟨j + 1, by omega, by omega, ?_, by go_num, ?_, by first | trivial | rfl⟩
          · rw [HD.out]
          · have := HII.out; congr 1; push_cast; omega
        case measure => simp [intOf]; omega
      · obtain rfl : j = t := by omega
        have g1 : ¬ (j : Int) < (j : Int) := by omega
        go_wp2_with fail
        go_ret2
        have e : (last j L).length = j := by rw [last_len]; omega
        rw [e]
        exact ⟨rfl, hB1⟩
    · obtain rfl : j = L.length := by omega
      have g0 : ¬ (0 : Int) ≤ (L.length : Int) - 1 - (L.length : Int) := by omega
      go_wp2_with fail
      go_ret2
      have e : last t L = L := by unfold last; rw [show L.length - t = 0 by omega]; rfl
      rw [e]
      exact ⟨rfl, hB1⟩
theorem bel1 {w1 W w2 : World} {row : Option Nat} (hb : Below w1.heap.size w1 W) (hg : W.grownBy w2 row) (hr : ∀ k, row = some k → w1.heap.size ≤ k) : Below w1.heap.size w1 w2 := hb.grown hg hb.size hr
theorem fresh1 {v : Value} {X Y B n c : Nat} (h : v.ownBlock = (Value.slice (some ⟨X, 0, none⟩) n c).ownBlock ∨ v.ownBlock = some Y) (hX : B ≤ X) (hY : B ≤ Y) : ∀ g, v.ownBlock = some g → B ≤ g := fun g hg => by
  rcases h with e | e <;> rw [e] at hg <;> simp [Value.ownBlock] at hg <;> omega
theorem fresh2 {v v1 : Value} {Y B : Nat} (h : v.ownBlock = v1.ownBlock ∨ v.ownBlock = some Y) (h1 : ∀ g, v1.ownBlock = some g → B ≤ g) (hY : B ≤ Y) : ∀ g, v.ownBlock = some g → B ≤ g := fun g hg => by
  rcases h with e | e
  · exact h1 g (e ▸ hg)
  · rw [e] at hg; cases hg; exact hY

set_option maxRecDepth 100000 in
set_option maxHeartbeats 8000000 in
theorem ref_tick (w : World) (t : Nat) (lv : Value) (L : List Int) (now peak all : Int) (ho : On w 2 1 lv L.length (L.map (.int .i64))) (hp : ∀ x ∈ L ++ [now], 0 ≤ x) (hs : (L ++ [now]).sum ≤ 4611686018427387904) (hl : L.length ≤ 900) :
    Calls Try.prog 32 #[wv t lv now peak all] w fun e w' => ∃ lv', e = .returned (wv t lv' 0 (max peak (last t (L ++ [now])).sum) all) ∧ On w' 2 1 lv' (L ++ [now]).length ((L ++ [now]).map (.int .i64)) ∧ (∀ g, lv'.ownBlock = some g → w.heap.size ≤ g) ∧ Below w.heap.size w w' := by
  obtain ⟨i0, hi0, hz0, hz1, hz2⟩ := info_parts RingI64.info
  obtain ⟨al, cl, rfl, hlc, hcm⟩ := ho.slice
  unfold wv
  go_enter Try.func32, Try.ntmps32
  go_upto_region 1 with fail
  obtain ⟨w1, hw1⟩ : ∃ w1, w1 = ((w.alloc (.cells #[.int .i64 t, .slice al L.length cl, .int .i64 now, .int .i64 peak, .int .i64 all] 58)).alloc (.cells #[.int .i64 0, .slice none 0 0, .int .i64 0, .int .i64 0, .int .i64 0] 58)) := ⟨_, rfl⟩
  have hz : w1.heap.size = w.heap.size + 2 := by rw [hw1]; simp
  have hbx : Blk w1 w.heap.size 58 #[.int .i64 t, .slice al L.length cl, .int .i64 now, .int .i64 peak, .int .i64 all] := by rw [hw1]; exact (Blk.new _ _ _).alloc _
  have hrs : Blk w1 (w.heap.size + 1) 58 #[.int .i64 0, .slice none 0 0, .int .i64 0, .int .i64 0, .int .i64 0] := by
    rw [hw1]
    have := Blk.new (w.alloc (.cells #[.int .i64 t, .slice al L.length cl, .int .i64 now, .int .i64 peak, .int .i64 all] 58)) 58 #[.int .i64 0, .slice none 0 0, .int .i64 0, .int .i64 0, .int .i64 0]
    simpa using this
  have hB1 : Below w.heap.size w w1 := by rw [hw1]; exact ((Below.refl _ w).alloc (Nat.le_refl _) _).alloc (by simp) _
  have ho1 : On w1 2 1 (.slice al L.length cl) L.length (L.map (.int .i64)) := by rw [hw1]; exact (ho.alloc _).alloc _
  rw [← hw1]
  clear hw1
  have hlt : w.heap.size < w1.heap.size := by omega
  have HZ := Lib.hid hz
  clear hz
  have fa : On (w1.alloc (.cells #[] 2)) 2 1 (.slice (some ⟨w1.heap.size, 0, none⟩) 0 0) 0 [] := On.empty _ _ _
  have fb := fa.alloc (.cells #[.int .i64 now] 2)
  have fc : On ((w1.alloc (.cells #[.int .i64 now] 2)).alloc (.cells #[] 2)) 2 1 (.slice (some ⟨w1.heap.size + 1, 0, none⟩) 0 0) 0 [] := by
    have := On.empty (w1.alloc (.cells #[.int .i64 now] 2)) 2 1
    simpa using this
  have na : On (w1.alloc (.cells #[.int .i64 now] 2)) 2 1 (.slice (some ⟨w1.heap.size, 0, none⟩) 1 1) 1 [.int .i64 now] := ⟨rfl, .inr ⟨w1.heap.size, 1, #[.int .i64 now], rfl, heap_new w1 _, Nat.le_refl _, by simp [maxLen], by simp, by simp⟩⟩
  have nc := na.alloc (.cells #[] 2)
  have nb : On ((w1.alloc (.cells #[] 2)).alloc (.cells #[.int .i64 now] 2)) 2 1 (.slice (some ⟨w1.heap.size + 1, 0, none⟩) 1 1) 1 [.int .i64 now] := ⟨rfl, .inr ⟨w1.heap.size + 1, 1, #[.int .i64 now], rfl, by have := heap_new (w1.alloc (.cells #[] 2)) (.cells #[.int .i64 now] 2); simpa using this, Nat.le_refl _, by simp [maxLen], by simp, by simp⟩⟩
  have sa := Lib.hid ((ho1.alloc (.cells #[] 2)).src)
  have sb := Lib.hid (((ho1.alloc (.cells #[] 2)).alloc (.cells #[.int .i64 now] 2)).src)
  have sc := Lib.hid (((ho1.alloc (.cells #[.int .i64 now] 2)).alloc (.cells #[] 2)).src)
  have hbA : Below w1.heap.size w1 (w1.alloc (.cells #[] 2)) := (Below.refl _ w1).alloc (Nat.le_refl _) _
  have hbB : Below w1.heap.size w1 ((w1.alloc (.cells #[] 2)).alloc (.cells #[.int .i64 now] 2)) := hbA.alloc hbA.size _
  have hbC : Below w1.heap.size w1 ((w1.alloc (.cells #[.int .i64 now] 2)).alloc (.cells #[] 2)) := ((Below.refl _ w1).alloc (Nat.le_refl _) _).alloc (by simp) _
  have q1 : w1.cell? ⟨w.heap.size, 1, none⟩ = some (.slice al L.length cl) := hbx.cell 1
  have q2 : w1.cell? ⟨w.heap.size, 2, none⟩ = some (.int .i64 now) := hbx.cell 2
  have hq1 : 0 + L.length ≤ maxLen := by simp only [maxLen]; omega
  have hq2 : (0 + L.length) * 8 ≤ 140737488355328 := by omega
  have hq3 : L.length + 1 ≤ maxLen := by simp only [maxLen]; omega
  have hq4 : (L.length + 1) * 8 ≤ 140737488355328 := by omega
  go_region_law
    (first
      | (refine step_append_on _ (by rfl) (.tmp 5) (.tmp 7) _ (by rfl) 2 i0 _ 1 8 Try.underlying56 hi0 hz0 hz1 hz2 rfl (by omega) (.slice (some ⟨w1.heap.size, 0, none⟩) 0 0) 0 [] (by rfl) (by exact fa) al L.length cl (L.map (.int .i64)) (by rfl) (by simp) (by exact sa.out) (one_map _ _) hq1 hq2 ?_; intro v1 w2 hown1 hg1 hat1; rw [Nat.zero_add, List.nil_append] at hown1; have hb2 : Below w1.heap.size w1 w2 := bel1 hbA ⟨hg1.os, hg1.tape, hg1.output, hg1.size, hg1.block⟩ (fun k hk => by simp [Value.ownBlock] at hk; omega); have k1 : w2.cell? ⟨w.heap.size, 1, none⟩ = some (.slice al L.length cl) := (hbx.below hb2 hlt).cell 1; have k2 : w2.cell? ⟨w.heap.size, 2, none⟩ = some (.int .i64 now) := (hbx.below hb2 hlt).cell 2; have O1 := fresh1 (by exact hat1) (Nat.le_refl _) (by exact hbA.size); obtain ⟨a1, c1, rfl, hl1, hm1⟩ := hown1.slice)
      | (refine step_append_on _ (by rfl) (.tmp 5) (.tmp 7) _ (by rfl) 2 i0 _ 1 8 Try.underlying56 hi0 hz0 hz1 hz2 rfl (by omega) (.slice (some ⟨w1.heap.size, 0, none⟩) 0 0) 0 [] (by rfl) (by exact fb) al L.length cl (L.map (.int .i64)) (by rfl) (by simp) (by exact sb.out) (one_map _ _) hq1 hq2 ?_; intro v1 w2 hown1 hg1 hat1; rw [Nat.zero_add, List.nil_append] at hown1; have hb2 : Below w1.heap.size w1 w2 := bel1 hbB ⟨hg1.os, hg1.tape, hg1.output, hg1.size, hg1.block⟩ (fun k hk => by simp [Value.ownBlock] at hk; omega); have hN := (On.grown (w := ((w1.alloc (.cells #[] 2)).alloc (.cells #[.int .i64 now] 2))) nb ⟨hg1.os, hg1.tape, hg1.output, hg1.size, hg1.block⟩ (by simp [Value.ownBlock])).src; have k1 : w2.cell? ⟨w.heap.size, 1, none⟩ = some (.slice al L.length cl) := (hbx.below hb2 hlt).cell 1; have k2 : w2.cell? ⟨w.heap.size, 2, none⟩ = some (.int .i64 now) := (hbx.below hb2 hlt).cell 2; have O1 := fresh1 (by exact hat1) (Nat.le_refl _) (by exact hbB.size); obtain ⟨a1, c1, rfl, hl1, hm1⟩ := hown1.slice)
      | (refine step_append_on _ (by rfl) (.tmp 5) (.tmp 7) _ (by rfl) 2 i0 _ 1 8 Try.underlying56 hi0 hz0 hz1 hz2 rfl (by omega) (.slice (some ⟨w1.heap.size + 1, 0, none⟩) 0 0) 0 [] (by rfl) (by exact fc) al L.length cl (L.map (.int .i64)) (by rfl) (by simp) (by exact sc.out) (one_map _ _) hq1 hq2 ?_; intro v1 w2 hown1 hg1 hat1; rw [Nat.zero_add, List.nil_append] at hown1; have hb2 : Below w1.heap.size w1 w2 := bel1 hbC ⟨hg1.os, hg1.tape, hg1.output, hg1.size, hg1.block⟩ (fun k hk => by simp [Value.ownBlock] at hk; omega); have hN := (On.grown (w := ((w1.alloc (.cells #[.int .i64 now] 2)).alloc (.cells #[] 2))) nc ⟨hg1.os, hg1.tape, hg1.output, hg1.size, hg1.block⟩ (by simp [Value.ownBlock])).src; have k1 : w2.cell? ⟨w.heap.size, 1, none⟩ = some (.slice al L.length cl) := (hbx.below hb2 hlt).cell 1; have k2 : w2.cell? ⟨w.heap.size, 2, none⟩ = some (.int .i64 now) := (hbx.below hb2 hlt).cell 2; have O1 := fresh1 (by exact hat1) (Nat.le_succ _) (by exact hbC.size); obtain ⟨a1, c1, rfl, hl1, hm1⟩ := hown1.slice)
      | (refine step_append_on _ (by rfl) (.tmp 8) (.tmp 11) _ (by rfl) 2 i0 _ 1 8 Try.underlying56 hi0 hz0 hz1 hz2 rfl (by omega) (.slice a1 L.length c1) L.length _ (by rfl) (by exact hown1.alloc (.cells #[.int .i64 now] 2)) (some ⟨w2.heap.size, 0, none⟩) 1 1 [.int .i64 now] (by rfl) (by rfl) (by exact src_new w2 2 1 [.int .i64 now]) (by simp [Value.oneCell']) hq3 hq4 ?_; intro v2 w3 hown2 hg2 hat2; have hb3 : Below w1.heap.size w1 w3 := bel1 (hb2.alloc hb2.size (.cells #[.int .i64 now] 2)) ⟨hg2.os, hg2.tape, hg2.output, hg2.size, hg2.block⟩ O1; have O2 := fresh2 (by exact hat2) O1 (by have := hb2.size; simp; omega); have k1 : w3.cell? ⟨w.heap.size, 1, none⟩ = some (.slice al L.length cl) := (hbx.below hb3 hlt).cell 1; have k2 : w3.cell? ⟨w.heap.size, 2, none⟩ = some (.int .i64 now) := (hbx.below hb3 hlt).cell 2; have kf : w3.frozen? ⟨w.heap.size, 1, none⟩ = false := (hbx.below hb3 hlt).frozen 1; obtain ⟨a2, c2, rfl, hl2, hm2⟩ := hown2.slice)
      | (refine step_append_on _ (by rfl) (.tmp 8) (.tmp 11) _ (by rfl) 2 i0 _ 1 8 Try.underlying56 hi0 hz0 hz1 hz2 rfl (by omega) (.slice a1 L.length c1) L.length _ (by rfl) (by exact hown1) (some ⟨w1.heap.size + 1, 0, none⟩) 1 1 [.int .i64 now] (by rfl) (by rfl) (by exact hN) (by simp [Value.oneCell']) hq3 hq4 ?_; intro v2 w3 hown2 hg2 hat2; have hb3 : Below w1.heap.size w1 w3 := bel1 hb2 ⟨hg2.os, hg2.tape, hg2.output, hg2.size, hg2.block⟩ O1; have O2 := fresh2 (by exact hat2) O1 (by have := hb2.size; simp; omega); have k1 : w3.cell? ⟨w.heap.size, 1, none⟩ = some (.slice al L.length cl) := (hbx.below hb3 hlt).cell 1; have k2 : w3.cell? ⟨w.heap.size, 2, none⟩ = some (.int .i64 now) := (hbx.below hb3 hlt).cell 2; have kf : w3.frozen? ⟨w.heap.size, 1, none⟩ = false := (hbx.below hb3 hlt).frozen 1; obtain ⟨a2, c2, rfl, hl2, hm2⟩ := hown2.slice)
      | (refine step_append_on _ (by rfl) (.tmp 8) (.tmp 11) _ (by rfl) 2 i0 _ 1 8 Try.underlying56 hi0 hz0 hz1 hz2 rfl (by omega) (.slice a1 L.length c1) L.length _ (by rfl) (by exact hown1) (some ⟨w1.heap.size, 0, none⟩) 1 1 [.int .i64 now] (by rfl) (by rfl) (by exact hN) (by simp [Value.oneCell']) hq3 hq4 ?_; intro v2 w3 hown2 hg2 hat2; have hb3 : Below w1.heap.size w1 w3 := bel1 hb2 ⟨hg2.os, hg2.tape, hg2.output, hg2.size, hg2.block⟩ O1; have O2 := fresh2 (by exact hat2) O1 (by have := hb2.size; simp; omega); have k1 : w3.cell? ⟨w.heap.size, 1, none⟩ = some (.slice al L.length cl) := (hbx.below hb3 hlt).cell 1; have k2 : w3.cell? ⟨w.heap.size, 2, none⟩ = some (.int .i64 now) := (hbx.below hb3 hlt).cell 2; have kf : w3.frozen? ⟨w.heap.size, 1, none⟩ = false := (hbx.below hb3 hlt).frozen 1; obtain ⟨a2, c2, rfl, hl2, hm2⟩ := hown2.slice))
  all_goals
    have bx3 := hbx.below hb3 hlt
    have rs3 := hrs.below hb3 (by have := HZ.out; omega)
    have X4 : Blk (w3.setCell ⟨w.heap.size, 1, none⟩ (.slice a2 (L.length + 1) c2)) w.heap.size 58 #[.int .i64 t, .slice a2 (L.length + 1) c2, .int .i64 now, .int .i64 peak, .int .i64 all] := bx3.set_ 1 _
    have R4 := rs3.far (p := ⟨w.heap.size, 1, none⟩) (by simp) (.slice a2 (L.length + 1) c2)
    have On4 := hown2.far (p := ⟨w.heap.size, 1, none⟩) (hown2.blk_ne bx3 (by decide)) (.slice a2 (L.length + 1) c2)
    have B4 : Below w.heap.size w (w3.setCell ⟨w.heap.size, 1, none⟩ (.slice a2 (L.length + 1) c2)) := (hB1.trans (hb3.mono hB1.size)).setCell (p := ⟨w.heap.size, 1, none⟩) (Nat.le_refl _) _
    have Z4 : w.heap.size + 2 ≤ (w3.setCell ⟨w.heap.size, 1, none⟩ (.slice a2 (L.length + 1) c2)).heap.size := by
      have h1 := hb3.size
      have h2 := HZ.out
      simp [World.setCell]; omega
    have F4 : ∀ g, (Value.slice a2 (L.length + 1) c2).ownBlock = some g → w.heap.size + 2 ≤ g := fun g hg => by have := O2 g hg; have := HZ.out; omega
    generalize w3.setCell ⟨w.heap.size, 1, none⟩ (.slice a2 (L.length + 1) c2) = w4 at *
    clear bx3 rs3 hown2 hb3 O2 k1 k2 kf hg2 hat2 hown1 hg1 hat1 hb2 O1 hbx hrs ho1 fa fb fc na nb nc sa sb sc hbA hbB hbC q1 q2 hB1 hlt ho
    have X5 : Blk (w4.setCell ⟨w.heap.size, 2, none⟩ (.int .i64 0)) w.heap.size 58 #[.int .i64 t, .slice a2 (L.length + 1) c2, .int .i64 0, .int .i64 peak, .int .i64 all] := X4.set_ 2 _
    have R5 := R4.far (p := ⟨w.heap.size, 2, none⟩) (by simp) (.int .i64 0)
    have On5 := On4.far (p := ⟨w.heap.size, 2, none⟩) (On4.blk_ne X4 (by decide)) (.int .i64 0)
    have B5 : Below w.heap.size w (w4.setCell ⟨w.heap.size, 2, none⟩ (.int .i64 0)) := B4.setCell (p := ⟨w.heap.size, 2, none⟩) (Nat.le_refl _) _
    have Z5 : w.heap.size + 2 ≤ (w4.setCell ⟨w.heap.size, 2, none⟩ (.int .i64 0)).heap.size := by simpa [World.setCell] using Z4
    have g2 := X4.cell 2
    have ff2 := X4.frozen 2
    simp only [List.getElem?_toArray, List.getElem?_cons_succ, List.getElem?_cons_zero] at g2
    clear X4 R4 On4 B4 Z4
    go_upto_region 3 with fail
    generalize w4.setCell ⟨w.heap.size, 2, none⟩ (.int .i64 0) = w5 at *
    have eL : (L ++ [now]).length = L.length + 1 := by simp
    have eM : L.map (Value.int .i64) ++ [.int .i64 now] = (L ++ [now]).map (.int .i64) := by simp
    rw [eM] at On5
    have On6 : On w5 2 1 (.slice a2 (L ++ [now]).length c2) (L ++ [now]).length ((L ++ [now]).map (.int .i64)) := by rw [eL]; exact On5
    have pL := ref_last w5 t a2 c2 (L ++ [now]) 0 peak all (Met.on_row On6) hp hs (by omega)
    rw [eL] at pL
    unfold wv at pL
    have PL := Lib.hid pL
    have h0 := X5.cell 0
    have h1 := X5.cell 1
    have h2 := X5.cell 2
    have h3 := X5.cell 3
    have h4 := X5.cell 4
    simp only [List.getElem?_toArray, List.getElem?_cons_succ, List.getElem?_cons_zero] at h0 h1 h2 h3 h4
    clear pL eM g2 ff2
    have EL := Lib.hid eL
    clear eL
    generalize hlS : last t (L ++ [now]) = lS at *
    go_wp2_with fail
    refine PL.out.mono ?_
    rintro e w6 ⟨rfl, hb6⟩
    have X6 := X5.below hb6 X5.lt
    have R6 := R5.below hb6 R5.lt
    have On7 := On6.below hb6 On6.lt
    have B6 : Below w.heap.size w w6 := B5.trans (hb6.mono (by omega))
    clear h0 h1 h2 h3 h4
    have h3 := X6.cell 3
    have ff3 := X6.frozen 3
    simp only [List.getElem?_toArray, List.getElem?_cons_succ, List.getElem?_cons_zero] at h3
    obtain ⟨M, hM⟩ : ∃ M, M = max peak lS.sum := ⟨_, rfl⟩
    have hmx : (if peak < lS.sum then lS.sum else peak) = M := by rw [hM]; omega
    have HM := Lib.hid hM
    clear hM
    go_upto_region 5 with fail
    have X7 : Blk (w6.setCell ⟨w.heap.size, 3, none⟩ (.int .i64 M)) w.heap.size 58 #[.int .i64 t, .slice a2 (L.length + 1) c2, .int .i64 0, .int .i64 M, .int .i64 all] := X6.set_ 3 _
    have R7 := R6.far (p := ⟨w.heap.size, 3, none⟩) (by simp) (.int .i64 M)
    have On8 := On7.far (p := ⟨w.heap.size, 3, none⟩) (On7.blk_ne X6 (by decide)) (.int .i64 M)
    have B7 : Below w.heap.size w (w6.setCell ⟨w.heap.size, 3, none⟩ (.int .i64 M)) := B6.setCell (p := ⟨w.heap.size, 3, none⟩) (Nat.le_refl _) _
    generalize w6.setCell ⟨w.heap.size, 3, none⟩ (.int .i64 M) = w7 at *
    have h0 := X7.cell 0
    have h1 := X7.cell 1
    have h2 := X7.cell 2
    have h4 := X7.cell 4
    clear h3
    have h3 := X7.cell 3
    have r0 := R7.cell 0
    have r1 := R7.cell 1
    have r2 := R7.cell 2
    have r3 := R7.cell 3
    have r4 := R7.cell 4
    have z0 := R7.frozen 0
    have z1 := R7.frozen 1
    have z2 := R7.frozen 2
    have z3 := R7.frozen 3
    have z4 := R7.frozen 4
    simp only [List.getElem?_toArray, List.getElem?_cons_succ, List.getElem?_cons_zero] at h0 h1 h2 h3 h4 r0 r1 r2 r3 r4
    clear ff3 hmx
    go_wp2_with fail
    have hne : ∀ i : Nat, (Value.slice a2 (L ++ [now]).length c2).ownBlock ≠ some (⟨w.heap.size + 1, i, none⟩ : Addr).block := fun i => On8.blk_ne R7 (by decide)
    have Y := ((((R7.set_ 0 (.int .i64 t)).set_ 1 (.slice a2 (L.length + 1) c2)).set_ 2 (.int .i64 0)).set_ 3 (.int .i64 M)).set_ 4 (.int .i64 all)
    have On9 := ((((On8.far (p := ⟨w.heap.size + 1, 0, none⟩) (hne 0) (.int .i64 t)).far (p := ⟨w.heap.size + 1, 1, none⟩) (hne 1) (.slice a2 (L.length + 1) c2)).far (p := ⟨w.heap.size + 1, 2, none⟩) (hne 2) (.int .i64 0)).far (p := ⟨w.heap.size + 1, 3, none⟩) (hne 3) (.int .i64 M)).far (p := ⟨w.heap.size + 1, 4, none⟩) (hne 4) (.int .i64 all)
    have B9 := ((((B7.setCell (p := ⟨w.heap.size + 1, 0, none⟩) (Nat.le_succ _) (.int .i64 t)).setCell (p := ⟨w.heap.size + 1, 1, none⟩) (Nat.le_succ _) (.slice a2 (L.length + 1) c2)).setCell (p := ⟨w.heap.size + 1, 2, none⟩) (Nat.le_succ _) (.int .i64 0)).setCell (p := ⟨w.heap.size + 1, 3, none⟩) (Nat.le_succ _) (.int .i64 M)).setCell (p := ⟨w.heap.size + 1, 4, none⟩) (Nat.le_succ _) (.int .i64 all)
    generalize ((((w7.setCell ⟨w.heap.size + 1, 0, none⟩ (.int .i64 t)).setCell ⟨w.heap.size + 1, 1, none⟩ (.slice a2 (L.length + 1) c2)).setCell ⟨w.heap.size + 1, 2, none⟩ (.int .i64 0)).setCell ⟨w.heap.size + 1, 3, none⟩ (.int .i64 M)).setCell ⟨w.heap.size + 1, 4, none⟩ (.int .i64 all) = w9 at *
    have y0 : w9.cell? ⟨w.heap.size + 1, 0, none⟩ = some (.int .i64 t) := Y.cell 0
    have y1 : w9.cell? ⟨w.heap.size + 1, 1, none⟩ = some (.slice a2 (L.length + 1) c2) := Y.cell 1
    have y2 : w9.cell? ⟨w.heap.size + 1, 2, none⟩ = some (.int .i64 0) := Y.cell 2
    have y3 : w9.cell? ⟨w.heap.size + 1, 3, none⟩ = some (.int .i64 M) := Y.cell 3
    have y4 : w9.cell? ⟨w.heap.size + 1, 4, none⟩ = some (.int .i64 all) := Y.cell 4
    refine bodyPost_ret (v := .agg #[.int .i64 t, .slice a2 (L.length + 1) c2, .int .i64 0, .int .i64 M, .int .i64 all]) (by simp [results, Try.results32, go_sem, y0, y1, y2, y3, y4]) rfl ?_
    refine ⟨.slice a2 (L.length + 1) c2, by rw [hlS, ← HM.out], ?_, fun g hg => by have := F4 g hg; omega, B9⟩
    have := On9
    rw [EL.out] at this ⊢
    exact this
end Go.Proofs.Ytmceaffoffemlaa.Flow
