/-
  The walk of backstayref26.Note. Conditions: lists of one length, at most sixteen.
-/
import Derived.Test.YthdppaohagghbaaRef26
namespace Go.Proofs.Ythdppaohagghbaa.Ref26
open Go.RowKit
open Num
open Tsync (su su_snoc hd hd_bd rheld_any floorV_bd)
set_option linter.all false

def cut16 (l : List Int) : List Int := if 16 < l.length then l.drop 1 else l
def noteX (x : R) (a b : Int) : R := { x with O := cut16 (x.O ++ [hd a]), P := cut16 (x.P ++ [hd b]) }
theorem int_info : (Try.prog.info? 3).map (fun i => (i.zero, i.size, i.bytes)) = some (some (.int .i64 0), 1, 8) := by kernel_rfl

set_option maxRecDepth 100000 in
set_option maxHeartbeats 4000000 in
theorem note_any (w : World) (o p : Value) (x : R) (a b : Int) (h : RAt w o p x) (ok : OkR x) (hel : x.P.length = x.O.length) :
    Calls Try.prog 32 #[rv o p x, .int .i64 a, .int .i64 b] w fun e w' => RTn w (noteX x a b) e w' := by
  obtain ⟨i0, hi0, hz0, hz1, hz2⟩ := info_parts int_info
  obtain ⟨k1, k2, k3, k4⟩ := ok
  obtain ⟨W1, hW1, hbx, hrs, hB, hz⟩ := boxes w (rc o p x)
  have HZ := Lib.hid hz
  have hzl : w.heap.size + 2 ≤ W1.heap.size := by omega
  clear hz
  obtain ⟨⟨ao, co, rfl, hco, hro⟩, ⟨ap, cp, rfl, hcp, hrp⟩⟩ := h
  have sO := Lib.hid (src_of (hro.below hB) (.cells #[] 3))
  have hbE := hbx.alloc (.cells #[] 3)
  obtain ⟨q0, q1, _, _, _⟩ := cells5 hbE
  have pa := Lib.hid (fun W => rheld_any W a)
  have pb := Lib.hid (fun W => rheld_any W b)
  have hrp1 := hrp.below hB
  have HEL := Lib.hid hel
  have e1 := On.empty W1 3 1
  clear hel hro hrp
  have hnx : noteX x a b = { x with O := cut16 (x.O ++ [hd a]), P := cut16 (x.P ++ [hd b]) } := rfl
  generalize hd a = va at pa hnx
  generalize hd b = vb at pb hnx
  have HNX := Lib.hid hnx
  clear hnx
  unfold rv rc
  unfold rc zc at hW1
  go_enter Try.func32, Try.ntmps32
  go_upto_region 1 with fail
  rw [← hW1]
  clear hW1
  go_wp2_with (at_builtin; refine wpList_append_on _ rfl (.tmp 9) (.tmp 11) _ rfl 3 i0 _ 1 8 Try.underlying57 hi0 hz0 hz1 hz2 rfl (by omega) (.slice (some ⟨W1.heap.size, 0, none⟩) 0 0) 0 [] rfl e1 ao x.O.length co (x.O.map (Value.int .i64)) rfl (by simp) sO.out (one_map _ _) (by simp only [maxLen]; omega) (by omega) ?_; intro v1 w2 hown1 hg1 hat1; obtain ⟨a1, c1, rfl, hl1, hm1⟩ := hown1.slice)
  refine (pa.out _).mono ?_
  rintro e w' ⟨rfl, rfl⟩
  simp only [Nat.zero_add, List.nil_append] at hown1 hat1
  have hb12 : Below W1.heap.size W1 w2 := ((Below.refl _ W1).alloc (Nat.le_refl _) _).grown hg1 (by simp) (fun k hk => by simp [Value.ownBlock] at hk; omega)
  have ho1 : ∀ k, (Value.slice a1 x.O.length c1).ownBlock = some k → W1.heap.size ≤ k := fun k hk => by
    rcases hat1 with e | e <;> rw [e] at hk <;> simp [Value.ownBlock] at hk <;> omega
  have ho1' := On.alloc hown1 (.cells #[.int .i64 va] 3)
  have z12 := hb12.size
  clear q0 q1
  go_upto_region 2 with (at_builtin; refine wpList_append_on _ rfl (.tmp 12) (.tmp 15) _ rfl 3 i0 _ 1 8 Try.underlying57 hi0 hz0 hz1 hz2 rfl (by omega) (.slice a1 x.O.length c1) _ _ rfl ho1' _ 1 1 [.int .i64 va] rfl rfl (.inr ⟨_, rfl, cell_one_new _ _ _⟩) (by simp [Value.oneCell']) (by simp only [maxLen]; omega) (by omega) ?_; intro v2 w3 hown2 hg2 hat2; obtain ⟨a2, c2, rfl, hl2, hm2⟩ := hown2.slice; have hb13 : Below W1.heap.size W1 w3 := (hb12.alloc z12 (.cells #[.int .i64 va] 3)).grown hg2 (by simp; omega) (fun k hk => ho1 k hk); have z13 := hb13.size; have hbx3 := hbx.below hb13 hbx.lt; obtain ⟨q0, q1, _, _, _⟩ := cells5 (hbx3.alloc (.cells #[] 3)); have sP := Lib.hid (src_of (hrp1.below hb13) (.cells #[] 3)); have e3 := On.empty w3 3 1)
  have ho2 : ∀ k, (Value.slice a2 (x.O.length + 1) c2).ownBlock = some k → W1.heap.size ≤ k := fun k hk => (own_le hat2 (n := W1.heap.size) (by simp; omega) k hk).elim (fun e => ho1 k e) id
  have HEL2 : x.P.length ≤ 16 := k2
  go_wp2_with (at_builtin; refine wpList_append_on _ rfl (.tmp 17) (.tmp 19) _ rfl 3 i0 _ 1 8 Try.underlying57 hi0 hz0 hz1 hz2 rfl (by omega) (.slice (some ⟨w3.heap.size, 0, none⟩) 0 0) 0 [] rfl e3 ap x.P.length cp (x.P.map (Value.int .i64)) rfl (by simp) sP.out (one_map _ _) (by simp only [maxLen]; omega) (by omega) ?_; intro v3 w4 hown3 hg3 hat3; obtain ⟨a3, c3, rfl, hl3, hm3⟩ := hown3.slice)
  refine (pb.out _).mono ?_
  rintro e w' ⟨rfl, rfl⟩
  simp only [Nat.zero_add, List.nil_append] at hown3 hat3
  have hb34 : Below w3.heap.size w3 w4 := ((Below.refl _ w3).alloc (Nat.le_refl _) _).grown hg3 (by simp) (fun k hk => by simp [Value.ownBlock] at hk; omega)
  have ho3 : ∀ k, (Value.slice a3 x.P.length c3).ownBlock = some k → w3.heap.size ≤ k := fun k hk => by
    rcases hat3 with e | e <;> rw [e] at hk <;> simp [Value.ownBlock] at hk <;> omega
  have ho3' := On.alloc hown3 (.cells #[.int .i64 vb] 3)
  have z34 := hb34.size
  clear q0 q1
  go_upto_region 3 with (at_builtin; refine wpList_append_on _ rfl (.tmp 20) (.tmp 23) _ rfl 3 i0 _ 1 8 Try.underlying57 hi0 hz0 hz1 hz2 rfl (by omega) (.slice a3 x.P.length c3) _ _ rfl ho3' _ 1 1 [.int .i64 vb] rfl rfl (.inr ⟨_, rfl, cell_one_new _ _ _⟩) (by simp [Value.oneCell']) (by simp only [maxLen]; omega) (by omega) ?_; intro v4 w5 hown4 hg4 hat4; obtain ⟨a4, c4, rfl, hl4, hm4⟩ := hown4.slice)
  have hb35 : Below w3.heap.size w3 w5 := (hb34.alloc z34 (.cells #[.int .i64 vb] 3)).grown hg4 (by simp; omega) (fun k hk => ho3 k hk)
  have ho4 : ∀ k, (Value.slice a4 (x.P.length + 1) c4).ownBlock = some k → w3.heap.size ≤ k := fun k hk => (own_le hat4 (n := w3.heap.size) (by simp; omega) k hk).elim (fun e => ho3 k e) id
  have hb15 : Below W1.heap.size W1 w5 := hb13.trans (hb35.mono z13)
  have hown2' := hown2.below hb35 (fun g hg => hown2.lt g hg)
  have hbx5 := hbx.below hb15 hbx.lt
  have hrs5 := hrs.below hb15 hrs.lt
  have z35 := hb35.size
  clear hg1 hg2 hg3 hg4 hat1 hat2 hat3 hat4 e1 e3 sO sP hown1 hown3 ho1' ho3' pa pb hbx3 hbE
  have hol : (x.O.map (Value.int .i64) ++ [.int .i64 va]) = (x.O ++ [va]).map (Value.int .i64) := by simp
  have hpl : (x.P.map (Value.int .i64) ++ [.int .i64 vb]) = (x.P ++ [vb]).map (Value.int .i64) := by simp
  rw [hol] at hown2'
  rw [hpl] at hown4
  have ro : x.O.length + 1 = (x.O ++ [va]).length := by simp
  have rp : x.P.length + 1 = (x.P ++ [vb]).length := by simp
  obtain ⟨k0, k1', k2', k3', k4'⟩ := cells5 hbx5
  obtain ⟨j0, j1, j2, j3, j4⟩ := frs5 hbx5
  obtain ⟨g0, g1, g2, g3, g4⟩ := zcells hrs5
  obtain ⟨f0, f1, f2, f3, f4⟩ := frs5 hrs5
  have hwb : Below w.heap.size w w5 := hB.trans (hb15.mono (by omega))
  have hend : ∀ (o' p' : Value) (O' P' : List Int) (W' : World), cut16 (x.O ++ [va]) = O' → cut16 (x.P ++ [vb]) = P' → Touch (fun b => b = w.heap.size ∨ b = w.heap.size + 1) w5 W' → (∀ W', Touch (fun b => b = w.heap.size ∨ b = w.heap.size + 1) w5 W' → L W' o' O' ∧ L W' p' P') → (∀ k, slBlk o' = some k → w.heap.size + 2 ≤ k) → (∀ k, slBlk p' = some k → w.heap.size + 2 ≤ k) → RTn w (noteX x a b) (.returned (rv o' p' { x with O := O', P := P' })) W' := by
    intro o' p' O' P' W' e1 e2 hT h12 hk1 hk2
    rw [HNX.out, e1, e2]
    exact ⟨o', p', rfl, h12 _ hT, hwb.trans (hT.below hwb.size (fun b hb => by rcases hb with e | e <;> omega)), hk1, hk2⟩
  have hto : ∀ W', Touch (fun b => b = w.heap.size ∨ b = w.heap.size + 1) w5 W' → On W' 3 1 (.slice a2 (x.O.length + 1) c2) (x.O.length + 1) ((x.O ++ [va]).map (Value.int .i64)) ∧ On W' 3 1 (.slice a4 (x.P.length + 1) c4) (x.P.length + 1) ((x.P ++ [vb]).map (Value.int .i64)) := by
    intro W' hT
    refine ⟨hown2'.touch hT (fun g hg hs => ?_), hown4.touch hT (fun g hg hs => ?_)⟩
    · have := ho2 g hg
      rcases hs with e | e <;> omega
    · have := ho4 g hg
      rcases hs with e | e <;> omega
  have HEND := Lib.hid hend
  have HTO := Lib.hid hto
  clear hend hto hwb hol hpl
  have hnm : x.P.length + 1 = x.O.length + 1 := by rw [HEL.out]
  have hcO : x.O.length + 1 ≤ 16 → cut16 (x.O ++ [va]) = x.O ++ [va] := fun h => by rw [cut16, if_neg (by omega)]
  have hcP : x.O.length + 1 ≤ 16 → cut16 (x.P ++ [vb]) = x.P ++ [vb] := fun h => by rw [cut16, if_neg (by rw [← rp, hnm]; omega)]
  have hdO : 16 < x.O.length + 1 → cut16 (x.O ++ [va]) = (x.O ++ [va]).drop 1 := fun h => by rw [cut16, if_pos (by omega)]
  have hdP : 16 < x.O.length + 1 → cut16 (x.P ++ [vb]) = (x.P ++ [vb]).drop 1 := fun h => by rw [cut16, if_pos (by rw [← rp, hnm]; omega)]
  have HBA : Hid (∀ k, slBlk (.slice a2 (x.O.length + 1) c2) = some k → w.heap.size + 2 ≤ k) := Lib.hid (fun k hk => by have := ho2 k hk; omega)
  have HBB : Hid (∀ k, slBlk (.slice a4 (x.P.length + 1) c4) = some k → w.heap.size + 2 ≤ k) := Lib.hid (fun k hk => by have := ho4 k hk; omega)
  rw [hnm] at HBB HTO hown4 rp hl4 ⊢
  clear hnm k1 k2 HEL HEL2 HZ
  generalize x.O.length + 1 = n at *
  have HcO := Lib.hid hcO
  have HcP := Lib.hid hcP
  have HdO := Lib.hid hdO
  have HdP := Lib.hid hdP
  have RO := Lib.hid ro
  have RP := Lib.hid rp
  clear hcO hcP hdO hdP ro rp
  by_cases hc : 16 < n
  · rcases hown2'.form with ⟨_, h0, _⟩ | ⟨g, cap, eg, hnc, _, _, _, _, _⟩
    · omega
    rcases hown4.form with ⟨_, h0, _⟩ | ⟨g', cap', eg', hnc', _, _, _, _, _⟩
    · omega
    cases eg
    cases eg'
    have t1 : (16 : Int) < (n : Int) := by omega
    have s1 : (1 : Int) ≤ (n : Int) := by omega
    have s2 : (n : Int) ≤ (c2 : Int) := by omega
    have s4 : (n : Int) ≤ (c4 : Int) := by omega
    clear hown2' hown4
    go_upto_region 4 with fail
    go_quiet (fail)
    go_wp2_with fail
    refine bodyPost_ret (v := rv (.slice (some ⟨g, 1, none⟩) (n - 1) (c2 - 1)) (.slice (some ⟨g', 1, none⟩) (n - 1) (c4 - 1)) { x with O := (x.O ++ [va]).drop 1, P := (x.P ++ [vb]).drop 1 }) (by simp [results, rv, rc, Try.results32, go_sem, g0, g1, g2, g3, g4]) rfl ?_
    refine HEND.out _ _ _ _ _ (HdO.out hc) (HdP.out hc) ?_ ?_ (fun k hk => by cases hk; exact HBA.out _ rfl) (fun k hk => by cases hk; exact HBB.out _ rfl)
    · repeat (refine Touch.setCell ?_ (Or.inl (by simp)) _)
      exact (Touch.refl _ _).drewN _
    · intro W' hT
      obtain ⟨o1, o2⟩ := HTO.out W' hT
      have r1 := RO.out
      have r2 := RP.out
      rw [r1] at o1 s2 hc
      refine ⟨by rw [r1]; exact L.tail_ o1 (by omega) (by omega), ?_⟩
      have s4' : (x.P ++ [vb]).length ≤ c4 := by omega
      have hc' : 1 < (x.P ++ [vb]).length := by omega
      rw [r2] at o2
      rw [r2]
      exact L.tail_ o2 hc' s4'
  · have t1 : ¬ (16 : Int) < (n : Int) := by omega
    clear hown2' hown4
    go_wp2_with fail
    refine bodyPost_ret (v := rv (.slice a2 n c2) (.slice a4 n c4) { x with O := x.O ++ [va], P := x.P ++ [vb] }) (by simp [results, rv, rc, Try.results32, go_sem, g0, g1, g2, g3, g4]) rfl ?_
    refine HEND.out _ _ _ _ _ (HcO.out (by omega)) (HcP.out (by omega)) ?_ ?_ HBA.out HBB.out
    · repeat (refine Touch.setCell ?_ (Or.inl (by simp)) _)
      exact Touch.refl _ _
    · intro W' hT
      obtain ⟨o1, o2⟩ := HTO.out W' hT
      have r1 := RO.out
      have r2 := RP.out
      refine ⟨?_, ?_⟩
      · rw [r1] at o1 ⊢
        exact L.of_on o1
      · rw [r2] at o2 ⊢
        exact L.of_on o2
end Go.Proofs.Ythdppaohagghbaa.Ref26
