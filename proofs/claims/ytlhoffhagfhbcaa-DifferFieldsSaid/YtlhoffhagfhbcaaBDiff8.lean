/-
  Texts joined: DfF, Gsum, Rput. No condition.
-/
import Derived.Test.YtlhoffhagfhbcaaBDiff7
namespace Go.Proofs.Ytlhoffhagfhbcaa.Dif
open Go.RowKit Go.Proofs.Ytlhoffhagfhbcaa.Byt Go.Proofs.Ytlhoffhagfhbcaa.Gm Go.Proofs.Ytlhoffhagfhbcaa.Num
set_option linter.all false

/-- Values of one cell in a slice; of what lay at w only blocks of S may have turned. -/
structure Gr (S : Nat → Prop) (t : TypeId) (w : World) (v : Value) (vs : List Value) (W : World) : Prop where
  out : On W t 1 v vs.length vs
  touch : Touch S w W
  own : ∀ g, v.ownBlock = some g → S g ∨ w.heap.size ≤ g
theorem Gr.app {S : Nat → Prop} {t : TypeId} {w W W1 W' : World} {v v' : Value} {vs us : List Value} (h : Gr S t w v vs W) (h1 : Below W.heap.size W W1) (hon : On W' t 1 v' (vs.length + us.length) (vs ++ us)) (hg : W1.grownBy W' v.ownBlock)
    (hv : v'.ownBlock = v.ownBlock ∨ v'.ownBlock = some W1.heap.size) : Gr S t w v' (vs ++ us) W' := by
  have ht : Touch S w W1 := h.touch.trans (Touch.of_below h1 : Touch noB W W1) (fun k hk => hk.elim)
  refine ⟨?_, ht.grown hg (fun k hk => h.own k hk), fun g hg' => ?_⟩
  · rw [List.length_append]
    exact hon
  · rcases hv with e | e
    · exact h.own g (by rw [← e]; exact hg')
    · rw [e] at hg'; cases hg'; exact .inr ht.size
theorem Gr.slice {S : Nat → Prop} {t : TypeId} {w W : World} {v : Value} {vs : List Value} (h : Gr S t w v vs W) : ∃ a c, v = .slice a vs.length c := by
  obtain ⟨a, c, rfl, _⟩ := On.slice h.out
  exact ⟨a, c, rfl⟩
theorem Gr.lower {S : Nat → Prop} {t : TypeId} {w w3 W : World} {v : Value} {vs : List Value} (h : Gr S t w3 v vs W) (hb : Below w.heap.size w w3) (hS : ∀ k, S k → w.heap.size ≤ k) : Gr noB t w v vs W :=
  ⟨h.out, (Touch.of_below hb : Touch noB w w3).trans (h.touch) (fun k hk => .inr (hS k hk)), fun g hg => .inr ((h.own g hg).elim (hS g) (fun e => Nat.le_trans hb.size e))⟩
theorem infoS : (Try.prog.info? 9).map (fun i => (i.zero, i.size, i.bytes)) = some (some (.string { data := #[] }), 1, 16) := by kernel_rfl
theorem infoI : (Try.prog.info? 2).map (fun i => (i.zero, i.size, i.bytes)) = some (some (.int .i64 0), 1, 8) := by kernel_rfl

def nmB : Nat → List ByteArray
  | 0 => [{ data := #[102, 114, 97, 109, 101] }, { data := #[115, 101, 101, 100] }]
  | i + 1 => nmB i ++ bodyNm.map (bodyH i ++ ·)
def nmBk (i k : Nat) : List ByteArray := nmB i ++ (bodyNm.take k).map (bodyH i ++ ·)
def nmS : Nat → List ByteArray
  | 0 => nmB 2
  | i + 1 => nmS i ++ shotNm.map (shotH i ++ ·)
def nmSk (i k : Nat) : List ByteArray := nmS i ++ (shotNm.take k).map (shotH i ++ ·)
def nmC : List ByteArray := nmS 8 ++ [{ data := #[115, 99, 111, 114, 101, 32, 48] }, { data := #[115, 99, 111, 114, 101, 32, 49] }]
theorem nmBk_zero (i : Nat) : nmBk i 0 = nmB i := by simp [nmBk]
theorem nmSk_zero (i : Nat) : nmSk i 0 = nmS i := by simp [nmSk]
theorem take_snoc {l : List ByteArray} {k : Nat} (h : k < l.length) : l.take (k + 1) = l.take k ++ [l.getD k ByteArray.empty] := by
  rw [List.take_succ, show l[k]? = some (l.getD k ByteArray.empty) from by simp [List.getD, h]]
  rfl
theorem nmBk_step (i : Nat) {k : Nat} (h : k < 7) : nmBk i (k + 1) = nmBk i k ++ [bodyH i ++ bodyNm.getD k ByteArray.empty] := by
  rw [nmBk, take_snoc (show k < bodyNm.length from h), List.map_append, ← List.append_assoc]; rfl
theorem nmSk_step (i : Nat) {k : Nat} (h : k < 6) : nmSk i (k + 1) = nmSk i k ++ [shotH i ++ shotNm.getD k ByteArray.empty] := by
  rw [nmSk, take_snoc (show k < shotNm.length from h), List.map_append, ← List.append_assoc]; rfl
theorem nmB_len : ∀ i, (nmB i).length = 2 + i * 7
  | 0 => rfl
  | i + 1 => by rw [nmB, List.length_append, nmB_len i, List.length_map]; simp [bodyNm]; omega
theorem nmS_len : ∀ i, (nmS i).length = 16 + i * 6
  | 0 => by rw [nmS, nmB_len]
  | i + 1 => by rw [nmS, List.length_append, nmS_len i, List.length_map]; simp [shotNm]; omega
theorem nmBk_len {i k : Nat} (h : k ≤ 7) : (nmBk i k).length = 2 + i * 7 + k := by rw [nmBk, List.length_append, nmB_len, List.length_map, List.length_take]; simp [bodyNm]; omega
theorem nmSk_len {i k : Nat} (h : k ≤ 6) : (nmSk i k).length = 16 + i * 6 + k := by rw [nmSk, List.length_append, nmS_len, List.length_map, List.length_take]; simp [shotNm]; omega
theorem bodyNm_size {k : Nat} (h : k < 7) : (bodyNm.getD k ByteArray.empty).size ≤ 6 := by
  have : k = 0 ∨ k = 1 ∨ k = 2 ∨ k = 3 ∨ k = 4 ∨ k = 5 ∨ k = 6 := by omega
  rcases this with rfl | rfl | rfl | rfl | rfl | rfl | rfl <;> decide
theorem shotNm_size {k : Nat} (h : k < 6) : (shotNm.getD k ByteArray.empty).size ≤ 6 := by
  have : k = 0 ∨ k = 1 ∨ k = 2 ∨ k = 3 ∨ k = 4 ∨ k = 5 := by omega
  rcases this with rfl | rfl | rfl | rfl | rfl | rfl <;> decide
theorem strs_cell {W : World} {g : Nat} {ss : List ByteArray} (h : Blk W g 9 (ss.map Value.string).toArray) {k : Nat} (hk : k < ss.length) : W.cell? ⟨g, k, none⟩ = some (.string (ss.getD k ByteArray.empty)) := by
  rw [h.cell k]
  simp [List.getD, hk]

theorem one_str (s : ByteArray) : ∀ u ∈ [Value.string s], u.oneCell' = true := by
  intro u hu
  simp at hu
  subst hu
  rfl

set_option maxRecDepth 100000 in
set_option maxHeartbeats 4000000 in
theorem names_any (w : World) : Calls Try.prog 16 #[] w fun e w' => ∃ v, e = .returned v ∧ Gr noB 9 w v (nmC.map Value.string) w' := by
  obtain ⟨i0, hi, hz0, hz1, hz2⟩ := info_parts infoS
  go_enter Try.func16, Try.ntmps16
  go_upto_region 4 with fail
  obtain ⟨gA, hgA⟩ : ∃ g, g = w.heap.size := ⟨_, rfl⟩
  obtain ⟨gB, hgB⟩ : ∃ g, g = gA + 1 := ⟨_, rfl⟩
  obtain ⟨gC, hgC⟩ : ∃ g, g = gB + 1 := ⟨_, rfl⟩
  obtain ⟨W1, hW1⟩ : ∃ W, W = w.alloc (.cells ((nmB 0).map Value.string).toArray 9) := ⟨_, rfl⟩
  obtain ⟨W2, hW2⟩ : ∃ W, W = W1.alloc (.cells (bodyNm.map Value.string).toArray 9) := ⟨_, rfl⟩
  obtain ⟨W3, hW3⟩ : ∃ W, W = W2.alloc (.cells (shotNm.map Value.string).toArray 9) := ⟨_, rfl⟩
  have s1 : W1.heap.size = gB := by rw [hW1, hgB, hgA]; simp
  have s2 : W2.heap.size = gC := by rw [hW2, hgC, World.size_alloc, s1]
  have s3 : W3.heap.size = gC + 1 := by rw [hW3, World.size_alloc, s2]
  have hA : Blk W3 gA 9 ((nmB 0).map Value.string).toArray := by
    rw [hW3, hW2]
    refine Blk.alloc (Blk.alloc ?_ _) _
    rw [hW1, hgA]; exact Blk.new _ _ _
  have hB : Blk W3 gB 9 (bodyNm.map Value.string).toArray := by
    rw [hW3]
    refine Blk.alloc ?_ _
    rw [hW2, ← s1]; exact Blk.new _ _ _
  have hC : Blk W3 gC 9 (shotNm.map Value.string).toArray := by
    rw [hW3, ← s2]; exact Blk.new _ _ _
  have M0 : Gr (· = gA) 9 W3 (.slice (some ⟨gA, 0, none⟩) 2 2) ((nmB 0).map Value.string) W3 := ⟨⟨rfl, .inr ⟨gA, 2, _, rfl, hA, Nat.le_refl _, by simp only [maxLen]; omega, by simp [nmB], by simp [nmB]⟩⟩, Touch.refl _ _, fun g hg => by cases hg; exact .inl rfl⟩
  have hbW : Below w.heap.size w W3 := by rw [hW3, hW2, hW1]; exact (((Below.refl _ w).alloc (Nat.le_refl _) _).alloc (by simp) _).alloc (by simp; omega) _
  have HB := Lib.hid hB
  have HC := Lib.hid hC
  have HBW := Lib.hid hbW
  have HG := Lib.hid (show gA < gB ∧ gB < gC ∧ gA < gC by omega)
  have HGL := Lib.hid (show gA < W3.heap.size ∧ gB < W3.heap.size ∧ gC < W3.heap.size by omega)
  have HGA := Lib.hid hgA
  rw [show ((w.alloc (Obj.cells #[Value.string { data := #[102, 114, 97, 109, 101] }, Value.string { data := #[115, 101, 101, 100] }] 9)).alloc (Obj.cells #[Value.string { data := #[120] }, Value.string { data := #[121] }, Value.string { data := #[118, 120] }, Value.string { data := #[118, 121] }, Value.string { data := #[108, 105, 102, 101] }, Value.string { data := #[99, 111, 111, 108] }, Value.string { data := #[102, 97, 99, 105, 110, 103] }] 9)).alloc (Obj.cells #[Value.string { data := #[111, 110] }, Value.string { data := #[120] }, Value.string { data := #[121] }, Value.string { data := #[118, 120] }, Value.string { data := #[111, 119, 110, 101, 114] }, Value.string { data := #[102, 114, 97, 109, 101, 115] }] 9) = W3 from by rw [hW3, hW2, hW1]; rfl, ← hgA, ← hgB, ← hgC]
  clear hW3 hW2 hW1 s1 s2 s3 hA hB hC hgA hgB hgC hbW
  go_wp2_with fail
--<names
  go_loopw [1, 4] (fun v iv wr => ∃ i : Nat, i ≤ 2 ∧ iv = .int .i64 (i : Int) ∧ Gr (· = gA) 9 W3 v ((nmB i).map Value.string) wr) (fun _ iv _ => 2 - (intOf iv).toNat)
  case atStart => exact ⟨0, by omega, rfl, M0⟩
  case round =>
    clear M0
    obtain ⟨i, hi', rfl, hm⟩ := hrel
    by_cases hlt : i < 2
    · have i1 : (0 : Int) ≤ (i : Int) := by omega
      have i2 : (i : Int) < 2 := by omega
      have HN := Lib.hid (show ∀ W, Calls Try.prog 60 #[.int .i64 (i : Int)] W fun e w' => e = .returned (.string (numS (i : Int))) ∧ Below W.heap.size W w' from fun W => rnum_any W (i : Int) (by omega) (by omega))
      have hns := numS_size (n := (i : Int)) (by omega) (by omega)
      have hm0 := hm
      rw [← nmBk_zero i] at hm0
      clear hm
      go_wp2_with fail
      go_loopw [1, 5] (fun v kv wr => ∃ k : Nat, k ≤ 7 ∧ kv = .int .i64 (k : Int) ∧ Gr (· = gA) 9 W3 v ((nmBk i k).map Value.string) wr) (fun _ kv _ => 7 - (intOf kv).toNat)
      case atStart => exact ⟨0, by omega, rfl, hm0⟩
      case round =>
        clear hm0
        obtain ⟨k, hk', rfl, hm⟩ := hrel
        obtain ⟨a, c, rfl⟩ := hm.slice
        obtain ⟨wo, rfl⟩ : ∃ wo : World, wo = wr := ⟨_, rfl⟩
        by_cases hkt : k < 7
        · have k1 : (0 : Int) ≤ (k : Int) := by omega
          have k2 : (k : Int) < 7 := by omega
          have HE := Lib.hid (nmBk_step i hkt)
          go_upto_region 10 with fail
          have hlen : (((nmBk i k).map Value.string).length) = 2 + i * 7 + k := by rw [List.length_map, nmBk_len (by omega)]
          have hz := bodyNm_size hkt
          have hbk : Blk wo gB 9 (bodyNm.map Value.string).toArray := HB.out.touch hm.touch (by have := HG.out; omega)
          have c0 := strs_cell hbk (show k < bodyNm.length from hkt)
          have hgl := hbk.lt
          have HM := Lib.hid hm
          have hne : some gB ≠ (Value.slice a ((nmBk i k).map Value.string).length c).ownBlock := fun e => by
            have := HG.out
            have := HGL.out
            rcases hm.own gB e.symm with h | h <;> omega
          clear hm hbk
          generalize bodyNm.getD k ByteArray.empty = s at *
          obtain ⟨vs, hvs⟩ : ∃ vs, vs = (nmBk i k).map Value.string := ⟨_, rfl⟩
          rw [← hvs] at HM hne hlen
          have HVS := Lib.hid hvs
          have HL := Lib.hid hlen
          have HSC := Lib.hid (show ∀ W, Bw wo W → W.cell? ⟨gB, k, none⟩ = some (.string s) from fun W h => (Below.cell (p := ⟨gB, k, none⟩) h hgl).trans c0)
          have HGR := Lib.hid (show ∀ W W', Bw wo W → W.grownBy W' (Value.slice a vs.length c).ownBlock → W'.cell? ⟨gB, k, none⟩ = some (.string s) from fun W W' h hg => (World.cell?_of_block (a := ⟨gB, k, none⟩) (hg.block gB (Nat.lt_of_lt_of_le hgl (Below.size h)) hne)).trans (HSC.out W h))
          have HOW := Lib.hid (show ∀ W, Bw wo W → On W 9 1 (.slice a vs.length c) vs.length vs from fun W h => On.below HM.out.out h (On.lt HM.out.out))
          have HFIN := Lib.hid (show ∀ w5 w6 v6, Bw wo w5 → On w6 9 1 v6 (vs.length + 1) (vs ++ [.string (({ data := #[98, 111, 100, 121, 32] } : ByteArray) ++ numS (i : Int) ++ ({ data := #[32] } : ByteArray) ++ s)]) → w5.grownBy w6 (Value.slice a vs.length c).ownBlock → (v6.ownBlock = (Value.slice a vs.length c).ownBlock ∨ v6.ownBlock = some w5.heap.size) → Gr (· = gA) 9 W3 v6 ((nmBk i (k + 1)).map Value.string) w6 from fun w5 w6 v6 d h1 h2 h3 => by
            rw [HE.out, List.map_append, ← HVS.out]
            exact HM.out.app d h1 h2 h3)
          have g1 : ¬ 9223372036854775807 < 5 + (numS (i : Int)).size := by omega
          have g3 : ¬ 9223372036854775807 < 5 + (numS (i : Int)).size + 1 := by omega
          have g4 : ¬ 9223372036854775807 < 5 + (numS (i : Int)).size + 1 + s.size := by omega
          have h7a : vs.length + 1 ≤ maxLen := by simp only [maxLen]; omega
          have h7b : (vs.length + 1) * 16 ≤ 140737488355328 := by omega
          have d0 := Bw.drew0 wo
          rw [← hvs]
          clear hlen hne hvs
          go_region_held3 (fun w' => w'.cell? ⟨gB, k, none⟩ = some (.string s)) (first | exact c0 | exact HSC.out _ d0 | exact HSC.out _ d2 | exact HSC.out _ (d2.al _) | exact d6)
            (first
              | (go_at_call 60; refine (HN.out _).mono ?_; rintro e w2 ⟨rfl, b2⟩; have d2 : Bw wo w2 := (by first | exact d0.go b2 | fail))
              | (refine step_append_on _ (by rfl) (.tmp 19) (.tmp 29) _ (by rfl) 9 i0 _ 1 16 Try.underlying35 hi hz0 hz1 hz2 (by rfl) (by omega) (.slice a vs.length c) vs.length vs (by rfl) (by exact HOW.out _ (d2.al _)) (some ⟨w2.heap.size, 0, none⟩) 1 1 [.string (({ data := #[98, 111, 100, 121, 32] } : ByteArray) ++ numS (i : Int) ++ ({ data := #[32] } : ByteArray) ++ s)] (by rfl) (by rfl) (by exact src_new w2 9 1 _) (one_str _) h7a h7b ?_
                 intro v6 w6 on6 g6 h6
                 have d6 := HGR.out _ w6 (d2.al _) g6
                 have m6 := HFIN.out _ w6 v6 (d2.al _) on6 g6 h6)
              | fail)
          all_goals
            go_wp2_with fail
            go_roundw
            case rel => exact ⟨k + 1, by omega, by go_num, m6⟩
            case measure => simp [intOf]; omega
        · obtain rfl : k = 7 := by omega
          rw [show ((7 : Nat) : Int) = 7 from rfl]
          clear hkt hk'
          have HM := Lib.hid hm
          clear hm
          go_wp2_with fail
          go_roundw
          case rel => exact ⟨i + 1, by omega, by go_num, HM.out⟩
          case measure => simp [intOf]; omega
    · obtain rfl : i = 2 := by omega
      rw [show ((2 : Nat) : Int) = 2 from rfl]
      clear hlt hi'
      have M0 := hm
      rw [show nmB 2 = nmS 0 from rfl] at M0
      clear hm
      go_wp2_with fail
      go_loopw [1, 6] (fun v iv wr => ∃ i : Nat, i ≤ 8 ∧ iv = .int .i64 (i : Int) ∧ Gr (· = gA) 9 W3 v ((nmS i).map Value.string) wr) (fun _ iv _ => 8 - (intOf iv).toNat)
      case atStart => exact ⟨0, by omega, rfl, M0⟩
      case round =>
        clear M0
        obtain ⟨i, hi', rfl, hm⟩ := hrel
        by_cases hlt : i < 8
        · have i1 : (0 : Int) ≤ (i : Int) := by omega
          have i2 : (i : Int) < 8 := by omega
          have HN := Lib.hid (show ∀ W, Calls Try.prog 60 #[.int .i64 (i : Int)] W fun e w' => e = .returned (.string (numS (i : Int))) ∧ Below W.heap.size W w' from fun W => rnum_any W (i : Int) (by omega) (by omega))
          have hns := numS_size (n := (i : Int)) (by omega) (by omega)
          have hm0 := hm
          rw [← nmSk_zero i] at hm0
          clear hm
          go_wp2_with fail
          go_loopw [1, 7] (fun v kv wr => ∃ k : Nat, k ≤ 6 ∧ kv = .int .i64 (k : Int) ∧ Gr (· = gA) 9 W3 v ((nmSk i k).map Value.string) wr) (fun _ kv _ => 6 - (intOf kv).toNat)
          case atStart => exact ⟨0, by omega, rfl, hm0⟩
          case round =>
            clear hm0
            obtain ⟨k, hk', rfl, hm⟩ := hrel
            obtain ⟨a, c, rfl⟩ := hm.slice
            obtain ⟨wo, rfl⟩ : ∃ wo : World, wo = wr := ⟨_, rfl⟩
            by_cases hkt : k < 6
            · have k1 : (0 : Int) ≤ (k : Int) := by omega
              have k2 : (k : Int) < 6 := by omega
              have HE := Lib.hid (nmSk_step i hkt)
              go_upto_region 17 with fail
              have hlen : (((nmSk i k).map Value.string).length) = 16 + i * 6 + k := by rw [List.length_map, nmSk_len (by omega)]
              have hz := shotNm_size hkt
              have hbk : Blk wo gC 9 (shotNm.map Value.string).toArray := HC.out.touch hm.touch (by have := HG.out; omega)
              have c0 := strs_cell hbk (show k < shotNm.length from hkt)
              have hgl := hbk.lt
              have HM := Lib.hid hm
              have hne : some gC ≠ (Value.slice a ((nmSk i k).map Value.string).length c).ownBlock := fun e => by
                have := HG.out
                have := HGL.out
                rcases hm.own gC e.symm with h | h <;> omega
              clear hm hbk
              generalize shotNm.getD k ByteArray.empty = s at *
              obtain ⟨vs, hvs⟩ : ∃ vs, vs = (nmSk i k).map Value.string := ⟨_, rfl⟩
              rw [← hvs] at HM hne hlen
              have HVS := Lib.hid hvs
              have HL := Lib.hid hlen
              have HSC := Lib.hid (show ∀ W, Bw wo W → W.cell? ⟨gC, k, none⟩ = some (.string s) from fun W h => (Below.cell (p := ⟨gC, k, none⟩) h hgl).trans c0)
              have HGR := Lib.hid (show ∀ W W', Bw wo W → W.grownBy W' (Value.slice a vs.length c).ownBlock → W'.cell? ⟨gC, k, none⟩ = some (.string s) from fun W W' h hg => (World.cell?_of_block (a := ⟨gC, k, none⟩) (hg.block gC (Nat.lt_of_lt_of_le hgl (Below.size h)) hne)).trans (HSC.out W h))
              have HOW := Lib.hid (show ∀ W, Bw wo W → On W 9 1 (.slice a vs.length c) vs.length vs from fun W h => On.below HM.out.out h (On.lt HM.out.out))
              have HFIN := Lib.hid (show ∀ w5 w6 v6, Bw wo w5 → On w6 9 1 v6 (vs.length + 1) (vs ++ [.string (({ data := #[115, 104, 111, 116, 32] } : ByteArray) ++ numS (i : Int) ++ ({ data := #[32] } : ByteArray) ++ s)]) → w5.grownBy w6 (Value.slice a vs.length c).ownBlock → (v6.ownBlock = (Value.slice a vs.length c).ownBlock ∨ v6.ownBlock = some w5.heap.size) → Gr (· = gA) 9 W3 v6 ((nmSk i (k + 1)).map Value.string) w6 from fun w5 w6 v6 d h1 h2 h3 => by
                rw [HE.out, List.map_append, ← HVS.out]
                exact HM.out.app d h1 h2 h3)
              have g1 : ¬ 9223372036854775807 < 5 + (numS (i : Int)).size := by omega
              have g3 : ¬ 9223372036854775807 < 5 + (numS (i : Int)).size + 1 := by omega
              have g4 : ¬ 9223372036854775807 < 5 + (numS (i : Int)).size + 1 + s.size := by omega
              have h7a : vs.length + 1 ≤ maxLen := by simp only [maxLen]; omega
              have h7b : (vs.length + 1) * 16 ≤ 140737488355328 := by omega
              have d0 := Bw.drew0 wo
              rw [← hvs]
              clear hlen hne hvs
              go_region_held3 (fun w' => w'.cell? ⟨gC, k, none⟩ = some (.string s)) (first | exact c0 | exact HSC.out _ d0 | exact HSC.out _ d2 | exact HSC.out _ (d2.al _) | exact d6)
                (first
                  | (go_at_call 60; refine (HN.out _).mono ?_; rintro e w2 ⟨rfl, b2⟩; have d2 : Bw wo w2 := (by first | exact d0.go b2 | fail))
                  | (refine step_append_on _ (by rfl) (.tmp 39) (.tmp 49) _ (by rfl) 9 i0 _ 1 16 Try.underlying35 hi hz0 hz1 hz2 (by rfl) (by omega) (.slice a vs.length c) vs.length vs (by rfl) (by exact HOW.out _ (d2.al _)) (some ⟨w2.heap.size, 0, none⟩) 1 1 [.string (({ data := #[115, 104, 111, 116, 32] } : ByteArray) ++ numS (i : Int) ++ ({ data := #[32] } : ByteArray) ++ s)] (by rfl) (by rfl) (by exact src_new w2 9 1 _) (one_str _) h7a h7b ?_
                     intro v6 w6 on6 g6 h6
                     have d6 := HGR.out _ w6 (d2.al _) g6
                     have m6 := HFIN.out _ w6 v6 (d2.al _) on6 g6 h6)
                  | fail)
              all_goals
                go_wp2_with fail
                go_roundw
                case rel => exact ⟨k + 1, by omega, by go_num, m6⟩
                case measure => simp [intOf]; omega
            · obtain rfl : k = 6 := by omega
              rw [show ((6 : Nat) : Int) = 6 from rfl]
              clear hkt hk'
              have HM := Lib.hid hm
              clear hm
              go_wp2_with fail
              go_roundw
              case rel => exact ⟨i + 1, by omega, by go_num, HM.out⟩
              case measure => simp [intOf]; omega
        · obtain rfl : i = 8 := by omega
          rw [show ((8 : Nat) : Int) = 8 from rfl]
          clear hlt hi'
          obtain ⟨a, c, rfl⟩ := hm.slice
          have hl := nmS_len 8
          have HM := Lib.hid hm
          obtain ⟨vs, hvs⟩ : ∃ vs, vs = (nmS 8).map Value.string := ⟨_, rfl⟩
          have hlen : vs.length = 64 := by rw [hvs, List.length_map, hl]
          rw [← hvs] at HM ⊢
          have q1 : vs.length + 2 ≤ maxLen := by simp only [maxLen]; omega
          have q2 : (vs.length + 2) * 16 ≤ 140737488355328 := by omega
          have X := Lib.hid (On.alloc HM.out.out (.cells #[.string { data := #[115, 99, 111, 114, 101, 32, 48] }, .string { data := #[115, 99, 111, 114, 101, 32, 49] }] 9))
          have HVS := Lib.hid hvs
          have h1s : ∀ u ∈ [Value.string { data := #[115, 99, 111, 114, 101, 32, 48] }, Value.string { data := #[115, 99, 111, 114, 101, 32, 49] }], u.oneCell' = true := by
            intro u hu
            simp at hu
            rcases hu with rfl | rfl <;> rfl
          clear hm hl hlen hvs
          go_wp2_with (at_builtin; refine wpList_append_on _ (by rfl) _ _ 35 (by rfl) 9 i0 _ 1 16 Try.underlying35 hi hz0 hz1 hz2 (by rfl) (by omega) (.slice a vs.length c) vs.length vs (by rfl) X.out (some ⟨wr.heap.size, 0, none⟩) 2 2 [.string { data := #[115, 99, 111, 114, 101, 32, 48] }, .string { data := #[115, 99, 111, 114, 101, 32, 49] }] (by rfl) (by rfl) (src_new wr 9 2 _) h1s q1 q2 ?_; intro v' w' hon hg hv')
          go_ret
          have m := HM.out.app (Bw.one wr _) hon hg hv'
          refine ⟨_, rfl, ?_⟩
          rw [nmC, List.map_append, ← HVS.out]
          exact m.lower HBW.out (fun k hk => by have := HGA.out; omega)
-->names

def nuB (f : F) : Nat → List Int
  | 0 => [f 0, f 1]
  | i + 1 => nuB f i ++ bNum f (2 + i * 7)
def nuS (f : F) : Nat → List Int
  | 0 => nuB f 2
  | k + 1 => nuS f k ++ sNum f (16 + k * 6)
def nuC (f : F) : List Int := nuS f 8 ++ [f 64, f 65]
theorem nuB_len (f : F) : ∀ i, (nuB f i).length = 2 + i * 7
  | 0 => rfl
  | i + 1 => by rw [nuB, List.length_append, nuB_len f i]; simp [bNum]; omega
theorem nuS_len (f : F) : ∀ k, (nuS f k).length = 16 + k * 6
  | 0 => by rw [nuS, nuB_len]
  | k + 1 => by rw [nuS, List.length_append, nuS_len f k]; simp [sNum]; omega
theorem nuC_len (f : F) : (nuC f).length = 66 := by rw [nuC, List.length_append, nuS_len]; rfl
theorem nmC_len : nmC.length = 66 := by rw [nmC, List.length_append, nmS_len]; rfl

set_option maxRecDepth 100000 in
set_option maxHeartbeats 8000000 in
theorem numbers_any (w : World) (f : F) (hw : Wf f) :
    Calls Try.prog 17 #[stV f] w fun e w' => ∃ v, e = .returned v ∧ Gr noB 2 w v ((nuC f).map (Value.int .i64)) w' := by
  obtain ⟨i0, hi, hz0, hz1, hz2⟩ := info_parts infoI
  obtain ⟨W1, hW1⟩ : ∃ W1, W1 = w.alloc (.cells (stA f) 31) := ⟨_, rfl⟩
  have hS : SB W1 w.heap.size 31 f := by rw [hW1]; exact SB.new w _ f
  have hB : Below w.heap.size w W1 := by rw [hW1]; exact (Below.refl _ w).alloc (Nat.le_refl _) _
  have c0 := hS.int (j := 0) (by omega) (by omega) (by omega)
  have c1 := hS.seed
  have HS := Lib.hid hS
  have HB := Lib.hid hB
  have HW := Lib.hid hw
  have s0 := hw.seed
  obtain ⟨W2, hW2⟩ : ∃ W2, W2 = W1.alloc (.cells #[.int .i64 (f 0), .int .i64 (f 1)] 2) := ⟨_, rfl⟩
  have M0 : Gr noB 2 W1 (.slice (some ⟨W1.heap.size, 0, none⟩) 2 2) ((nuB f 0).map (Value.int .i64)) W2 := ⟨⟨rfl, .inr ⟨W1.heap.size, 2, _, rfl, by rw [hW2]; exact heap_new W1 _, Nat.le_refl _, by simp only [maxLen]; omega, by simp, by simp [nuB]⟩⟩, by rw [hW2]; exact (Touch.refl _ W1).alloc _, fun g hg => by cases hg; exact .inr (Nat.le_refl _)⟩
  unfold stV
  clear hS hB hw
  go_enter Try.func17, Try.ntmps17
  go_upto_region 1 with fail
  rw [← hW1]
  clear hW1
  go_upto_region 2 with fail
  rw [← hW2]
  clear hW2 c0 c1 s0
  go_wp2_with fail
  go_loopw [3, 4] (fun v iv wr => ∃ i : Nat, i ≤ 2 ∧ iv = .int .i64 (i : Int) ∧ Gr noB 2 W1 v ((nuB f i).map (Value.int .i64)) wr) (fun _ iv _ => 2 - (intOf iv).toNat)
  case atStart => exact ⟨0, by omega, rfl, M0⟩
  case round =>
    clear M0
    obtain ⟨i, hi', rfl, hm⟩ := hrel
    obtain ⟨a, c, rfl⟩ := hm.slice
    obtain ⟨wo, rfl⟩ : ∃ wo : World, wo = wr := ⟨_, rfl⟩
    by_cases hlt : i < 2
    · have i1 : (0 : Int) ≤ (i : Int) := by omega
      have i2 : (i : Int) < 2 := by omega
      have hr := (HS.out.touch hm.touch (fun h => h.elim)).bodR hlt
      unfold bodL at hr
      simp only [bod] at hr
      have HE := Lib.hid (show nuB f (i + 1) = nuB f i ++ bNum f (2 + i * 7) from rfl)
      have HL := Lib.hid (nuB_len f i)
      have HM := Lib.hid hm
      clear hm
      rw [List.length_map]
      generalize nuB f i = l at *
      go_upto_region 5 with fail
      go_upto_region 6 with (refine wpList_load_mid (by rfl) 24 _ (by rfl) w.heap.size (2 + i * 7) (by rfl) _ _ hr Try.underlying24 (by rfl) infoB ?_)
      obtain ⟨Wb, hWb⟩ : ∃ Wb, Wb = wo.alloc (.cells #[.int .i64 (f (2 + i * 7)), .int .i64 (f (2 + i * 7 + 1)), .int .i64 (f (2 + i * 7 + 2)), .int .i64 (f (2 + i * 7 + 3)), .int .i64 (f (2 + i * 7 + 4)), .int .i64 (f (2 + i * 7 + 5)), .int .i64 (f (2 + i * 7 + 6))] 24) := ⟨_, rfl⟩
      obtain ⟨gb, hgb⟩ : ∃ gb, gb = wo.heap.size := ⟨_, rfl⟩
      have hBb : Blk Wb gb 24 #[.int .i64 (f (2 + i * 7)), .int .i64 (f (2 + i * 7 + 1)), .int .i64 (f (2 + i * 7 + 2)), .int .i64 (f (2 + i * 7 + 3)), .int .i64 (f (2 + i * 7 + 4)), .int .i64 (f (2 + i * 7 + 5)), .int .i64 (f (2 + i * 7 + 6))] := by rw [hWb, hgb]; exact Blk.new _ _ _
      have hbw : Below wo.heap.size wo Wb := by rw [hWb]; exact Bw.one _ _
      rw [← hWb, ← hgb]
      have k0 := hBb.cell 0
      have k1 := hBb.cell 1
      have k2 := hBb.cell 2
      have k3 := hBb.cell 3
      have k4 := hBb.cell 4
      have k5 := hBb.cell 5
      have k6 := hBb.cell 6
      simp at k0 k1 k2 k3 k4 k5 k6
      have HBW := Lib.hid hbw
      have HGB := Lib.hid hgb
      have q1 : l.length + 7 ≤ maxLen := by have := HL.out; simp only [maxLen]; omega
      have q2 : (l.length + 7) * 8 ≤ 140737488355328 := by have := HL.out; omega
      have X0 := HM.out.out
      rw [List.length_map] at X0
      have X := Lib.hid (On.alloc (On.below X0 hbw (On.lt X0)) (.cells #[.int .i64 (f (2 + i * 7)), .int .i64 (f (2 + i * 7 + 1)), .int .i64 (f (2 + i * 7 + 2)), .int .i64 (f (2 + i * 7 + 3)), .int .i64 (f (2 + i * 7 + 4)), .int .i64 (f (2 + i * 7 + 5)), .int .i64 (f (2 + i * 7 + 6))] 2))
      have HAP := Lib.hid (show ∀ w6 v6, On w6 2 1 v6 (l.length + 7) (l.map (Value.int .i64) ++ [.int .i64 (f (2 + i * 7)), .int .i64 (f (2 + i * 7 + 1)), .int .i64 (f (2 + i * 7 + 2)), .int .i64 (f (2 + i * 7 + 3)), .int .i64 (f (2 + i * 7 + 4)), .int .i64 (f (2 + i * 7 + 5)), .int .i64 (f (2 + i * 7 + 6))]) → (Wb.alloc (.cells #[.int .i64 (f (2 + i * 7)), .int .i64 (f (2 + i * 7 + 1)), .int .i64 (f (2 + i * 7 + 2)), .int .i64 (f (2 + i * 7 + 3)), .int .i64 (f (2 + i * 7 + 4)), .int .i64 (f (2 + i * 7 + 5)), .int .i64 (f (2 + i * 7 + 6))] 2)).grownBy w6 (Value.slice a l.length c).ownBlock → (v6.ownBlock = (Value.slice a l.length c).ownBlock ∨ v6.ownBlock = some (Wb.alloc (.cells #[.int .i64 (f (2 + i * 7)), .int .i64 (f (2 + i * 7 + 1)), .int .i64 (f (2 + i * 7 + 2)), .int .i64 (f (2 + i * 7 + 3)), .int .i64 (f (2 + i * 7 + 4)), .int .i64 (f (2 + i * 7 + 5)), .int .i64 (f (2 + i * 7 + 6))] 2)).heap.size) → Gr noB 2 W1 v6 ((nuB f (i + 1)).map (Value.int .i64)) w6 from fun w6 v6 h1 h2 h3 => by
        have m := HM.out
        rw [List.length_map] at m
        rw [HE.out, List.map_append]
        refine m.app (Bw.al HBW.out _) ?_ h2 h3
        rw [List.length_map]
        exact h1)
      have h1s : ∀ u ∈ ([.int .i64 (f (2 + i * 7)), .int .i64 (f (2 + i * 7 + 1)), .int .i64 (f (2 + i * 7 + 2)), .int .i64 (f (2 + i * 7 + 3)), .int .i64 (f (2 + i * 7 + 4)), .int .i64 (f (2 + i * 7 + 5)), .int .i64 (f (2 + i * 7 + 6))] : List Value), u.oneCell' = true := by
        intro u hu
        simp at hu
        rcases hu with rfl | rfl | rfl | rfl | rfl | rfl | rfl <;> rfl
      clear hWb hBb hbw hr hgb X0
      go_wp2_with (at_builtin; refine wpList_append_on _ (by rfl) _ _ 37 (by rfl) 2 i0 _ 1 8 Try.underlying37 hi hz0 hz1 hz2 (by rfl) (by omega) (.slice a l.length c) l.length (l.map (Value.int .i64)) (by rfl) X.out (some ⟨Wb.heap.size, 0, none⟩) 7 7 [.int .i64 (f (2 + i * 7)), .int .i64 (f (2 + i * 7 + 1)), .int .i64 (f (2 + i * 7 + 2)), .int .i64 (f (2 + i * 7 + 3)), .int .i64 (f (2 + i * 7 + 4)), .int .i64 (f (2 + i * 7 + 5)), .int .i64 (f (2 + i * 7 + 6))] (by rfl) (by rfl) (src_new Wb 2 7 _) h1s q1 q2 ?_; intro v6 w6 on6 g6 h6)
      go_roundw
      case rel => exact ⟨i + 1, by omega, by go_num, HAP.out w6 v6 on6 g6 h6⟩
      case measure => simp [intOf]; omega
    · obtain rfl : i = 2 := by omega
      rw [show ((2 : Nat) : Int) = 2 from rfl]
      clear hlt hi'
      rw [show nuB f 2 = nuS f 0 from rfl] at hm ⊢
      have M2 := hm
      clear hm
      go_wp2_with fail
      go_loopw [3, 6] (fun v kv wr => ∃ k : Nat, k ≤ 8 ∧ kv = .int .i64 (k : Int) ∧ Gr noB 2 W1 v ((nuS f k).map (Value.int .i64)) wr) (fun _ kv _ => 8 - (intOf kv).toNat)
      case atStart => exact ⟨0, by omega, rfl, by simpa using M2⟩
      case round =>
        clear M2
        obtain ⟨k, hk', rfl, hm⟩ := hrel
        obtain ⟨sa, sc, rfl⟩ := hm.slice
        obtain ⟨ws, rfl⟩ : ∃ ws : World, ws = wr := ⟨_, rfl⟩
        by_cases hlt : k < 8
        · have i1 : (0 : Int) ≤ (k : Int) := by omega
          have i2 : (k : Int) < 8 := by omega
          have hr := (HS.out.touch hm.touch (fun h => h.elim)).shoR hlt
          unfold shoL at hr
          simp only [sho] at hr
          have HE := Lib.hid (show nuS f (k + 1) = nuS f k ++ sNum f (16 + k * 6) from rfl)
          have HL := Lib.hid (nuS_len f k)
          have HM := Lib.hid hm
          clear hm
          rw [List.length_map]
          generalize nuS f k = l at *
          obtain ⟨B, hBo⟩ : ∃ B, B = onB (f (16 + k * 6)) := ⟨_, rfl⟩
          rw [← hBo] at hr
          have HBO := Lib.hid hBo
          clear hBo
          go_upto_region 10 with fail
          go_upto_region 12 with (refine wpList_load_mid (by rfl) 27 _ (by rfl) w.heap.size (16 + k * 6) (by rfl) _ _ hr Try.underlying27 (by rfl) Gm.infoS ?_)
          obtain ⟨Wb, hWb⟩ : ∃ Wb, Wb = ws.alloc (.cells #[.bool B, .int .i64 (f (16 + k * 6 + 1)), .int .i64 (f (16 + k * 6 + 2)), .int .i64 (f (16 + k * 6 + 3)), .int .i64 (f (16 + k * 6 + 4)), .int .i64 (f (16 + k * 6 + 5))] 27) := ⟨_, rfl⟩
          obtain ⟨gb, hgb⟩ : ∃ gb, gb = ws.heap.size := ⟨_, rfl⟩
          have hBb : Blk Wb gb 27 #[.bool B, .int .i64 (f (16 + k * 6 + 1)), .int .i64 (f (16 + k * 6 + 2)), .int .i64 (f (16 + k * 6 + 3)), .int .i64 (f (16 + k * 6 + 4)), .int .i64 (f (16 + k * 6 + 5))] := by rw [hWb, hgb]; exact Blk.new _ _ _
          have hbw : Below ws.heap.size ws Wb := by rw [hWb]; exact Bw.one _ _
          rw [← hWb, ← hgb]
          have k0 := hBb.cell 0
          have k1 := hBb.cell 1
          have k2 := hBb.cell 2
          have k3 := hBb.cell 3
          have k4 := hBb.cell 4
          have k5 := hBb.cell 5
          simp at k0 k1 k2 k3 k4 k5
          have HBW := Lib.hid hbw
          have HGB := Lib.hid hgb
          have q1 : l.length + 6 ≤ maxLen := by have := HL.out; simp only [maxLen]; omega
          have q2 : (l.length + 6) * 8 ≤ 140737488355328 := by have := HL.out; omega
          obtain ⟨z, hz⟩ : ∃ z : Int, z = if B then 1 else 0 := ⟨_, rfl⟩
          have X0 := HM.out.out
          rw [List.length_map] at X0
          have X := Lib.hid (On.alloc (On.below X0 hbw (On.lt X0)) (.cells #[.int .i64 z, .int .i64 (f (16 + k * 6 + 1)), .int .i64 (f (16 + k * 6 + 2)), .int .i64 (f (16 + k * 6 + 3)), .int .i64 (f (16 + k * 6 + 4)), .int .i64 (f (16 + k * 6 + 5))] 2))
          have HSN := Lib.hid (show ([z, f (16 + k * 6 + 1), f (16 + k * 6 + 2), f (16 + k * 6 + 3), f (16 + k * 6 + 4), f (16 + k * 6 + 5)] : List Int) = sNum f (16 + k * 6) by rw [hz, HBO.out]; rfl)
          have HAP := Lib.hid (show ∀ w6 v6, On w6 2 1 v6 (l.length + 6) (l.map (Value.int .i64) ++ [.int .i64 z, .int .i64 (f (16 + k * 6 + 1)), .int .i64 (f (16 + k * 6 + 2)), .int .i64 (f (16 + k * 6 + 3)), .int .i64 (f (16 + k * 6 + 4)), .int .i64 (f (16 + k * 6 + 5))]) → (Wb.alloc (.cells #[.int .i64 z, .int .i64 (f (16 + k * 6 + 1)), .int .i64 (f (16 + k * 6 + 2)), .int .i64 (f (16 + k * 6 + 3)), .int .i64 (f (16 + k * 6 + 4)), .int .i64 (f (16 + k * 6 + 5))] 2)).grownBy w6 (Value.slice sa l.length sc).ownBlock → (v6.ownBlock = (Value.slice sa l.length sc).ownBlock ∨ v6.ownBlock = some (Wb.alloc (.cells #[.int .i64 z, .int .i64 (f (16 + k * 6 + 1)), .int .i64 (f (16 + k * 6 + 2)), .int .i64 (f (16 + k * 6 + 3)), .int .i64 (f (16 + k * 6 + 4)), .int .i64 (f (16 + k * 6 + 5))] 2)).heap.size) → Gr noB 2 W1 v6 ((nuS f (k + 1)).map (Value.int .i64)) w6 from fun w6 v6 h1 h2 h3 => by
            have m := HM.out
            rw [List.length_map] at m
            rw [HE.out, List.map_append, ← HSN.out]
            refine m.app (Bw.al HBW.out _) ?_ h2 h3
            rw [List.length_map]
            exact h1)
          have h1s : ∀ u ∈ ([.int .i64 z, .int .i64 (f (16 + k * 6 + 1)), .int .i64 (f (16 + k * 6 + 2)), .int .i64 (f (16 + k * 6 + 3)), .int .i64 (f (16 + k * 6 + 4)), .int .i64 (f (16 + k * 6 + 5))] : List Value), u.oneCell' = true := by
            intro u hu
            simp at hu
            rcases hu with rfl | rfl | rfl | rfl | rfl | rfl <;> rfl
          clear hWb hBb hbw hr hgb X0
          go_upto_if 49 with fail
          go_cut [8] (fun zv wx => zv = .int .i64 z ∧ Wb = wx)
          case first =>
            cases B
            · have hzz : (0 : Int) = z := by rw [hz]; rfl
              clear hz
              go_wp2_with fail
              go_meet
              exact ⟨by rw [hzz], rfl⟩
            · have hzz : (1 : Int) = z := by rw [hz]; rfl
              clear hz
              go_wp2_with fail
              go_meet
              exact ⟨by rw [hzz], rfl⟩
          case rest =>
            obtain ⟨rfl, rfl⟩ := hcut
            clear hz
            go_wp2_with (at_builtin; refine wpList_append_on _ (by rfl) _ _ 37 (by rfl) 2 i0 _ 1 8 Try.underlying37 hi hz0 hz1 hz2 (by rfl) (by omega) (.slice sa l.length sc) l.length (l.map (Value.int .i64)) (by rfl) X.out (some ⟨Wb.heap.size, 0, none⟩) 6 6 [.int .i64 z, .int .i64 (f (16 + k * 6 + 1)), .int .i64 (f (16 + k * 6 + 2)), .int .i64 (f (16 + k * 6 + 3)), .int .i64 (f (16 + k * 6 + 4)), .int .i64 (f (16 + k * 6 + 5))] (by rfl) (by rfl) (src_new Wb 2 6 _) h1s q1 q2 ?_; intro v6 w6 on6 g6 h6)
            go_roundw
            case rel => exact ⟨k + 1, by omega, by go_num, HAP.out w6 v6 on6 g6 h6⟩
            case measure => simp [intOf]; omega
        · obtain rfl : k = 8 := by omega
          rw [show ((8 : Nat) : Int) = 8 from rfl]
          clear hlt hk'
          have hl := nuS_len f 8
          have c64 := (HS.out.touch hm.touch (fun h => h.elim)).score (i := 0) (by omega)
          have c65 := (HS.out.touch hm.touch (fun h => h.elim)).score (i := 1) (by omega)
          rw [show 64 + 0 = 64 from rfl] at c64
          rw [show 64 + 1 = 65 from rfl] at c65
          have HM := Lib.hid hm
          rw [List.length_map]
          obtain ⟨l, hll⟩ : ∃ l, l = nuS f 8 := ⟨_, rfl⟩
          rw [← hll] at HM hl ⊢
          have q1 : l.length + 2 ≤ maxLen := by simp only [maxLen]; omega
          have q2 : (l.length + 2) * 8 ≤ 140737488355328 := by omega
          have X0 := HM.out.out
          rw [List.length_map] at X0
          have X := Lib.hid (On.alloc X0 (.cells #[.int .i64 (f 64), .int .i64 (f 65)] 2))
          have HLL := Lib.hid hll
          have h1s : ∀ u ∈ [Value.int .i64 (f 64), Value.int .i64 (f 65)], u.oneCell' = true := by
            intro u hu
            simp at hu
            rcases hu with rfl | rfl <;> rfl
          clear hm hl hll X0
          go_wp2_with (at_builtin; refine wpList_append_on _ (by rfl) _ _ 37 (by rfl) 2 i0 _ 1 8 Try.underlying37 hi hz0 hz1 hz2 (by rfl) (by omega) (.slice sa l.length sc) l.length (l.map (Value.int .i64)) (by rfl) X.out (some ⟨ws.heap.size, 0, none⟩) 2 2 [.int .i64 (f 64), .int .i64 (f 65)] (by rfl) (by rfl) (src_new ws 2 2 _) h1s q1 q2 ?_; intro v' w' hon hg hv')
          go_ret
          have m := HM.out
          rw [List.length_map] at m
          have m2 := m.app (us := [.int .i64 (f 64), .int .i64 (f 65)]) (Bw.one ws _) (by rw [List.length_map]; exact hon) hg hv'
          refine ⟨_, rfl, ?_⟩
          rw [nuC, List.map_append, ← HLL.out]
          exact m2.lower HB.out (fun k hk => hk.elim)
end Go.Proofs.Ytlhoffhagfhbcaa.Dif
namespace Go.Proofs.Ytlhoffhagfhbcaa.Gm
open Go.RowKit Go.Sort Go.Proofs.Ytlhoffhagfhbcaa.Num Go.Proofs.Ytlhoffhagfhbcaa.Byt
set_option linter.all false

def mixS (h b : Int) : Int := IntKind.u32.wrap (bits .xor .u32 h b * 16777619)
def sumL (l : List Int) : Int := l.foldl mixS 2166136261
theorem mixS_in (h b : Int) : 0 ≤ mixS h b ∧ mixS h b < 4294967296 := by simp [mixS, IntKind.wrap, IntKind.bits, IntKind.signed]; omega
theorem foldl_in : ∀ (l : List Int) (h : Int), 0 ≤ h → h < 4294967296 → 0 ≤ l.foldl mixS h ∧ l.foldl mixS h < 4294967296
  | [], h, h0, h1 => ⟨h0, h1⟩
  | b :: r, h, _, _ => foldl_in r _ (mixS_in h b).1 (mixS_in h b).2
theorem sumL_in (l : List Int) : 0 ≤ sumL l ∧ sumL l < 4294967296 := foldl_in l _ (by decide) (by decide)
theorem be8_in (z : Int) : ∀ b ∈ be8 z, 0 ≤ b ∧ b < 256 := by
  intro b hb
  simp [be8, be4] at hb
  omega
theorem be4_in (z : Int) : ∀ b ∈ be4 z, 0 ≤ b ∧ b < 256 := by
  intro b hb
  simp [be4] at hb
  omega
def ByteL (l : List Int) : Prop := ∀ b ∈ l, 0 ≤ b ∧ b < 256
theorem ByteL.app {l m : List Int} (h : ByteL l) (h' : ByteL m) : ByteL (l ++ m) := fun b hb => (List.mem_append.1 hb).elim (h b) (h' b)
theorem runB_in (f : F) (o : Nat) : ∀ k, ByteL (runB f o k)
  | 0 => fun b hb => by cases hb
  | k + 1 => (runB_in f o k).app (be8_in _)
theorem bodiesB_in (f : F) : ∀ i, ByteL (bodiesB f i)
  | 0 => ByteL.app (be8_in _) (be4_in _)
  | i + 1 => (bodiesB_in f i).app (runB_in f _ 7)
theorem shotsB_in (f : F) : ∀ k, ByteL (shotsB f k)
  | 0 => bodiesB_in f 2
  | k + 1 => ((shotsB_in f k).app (fun b hb => by simp [onI] at hb; subst hb; split <;> decide)).app (runB_in f _ 5)
theorem stB_in (f : F) : ByteL (stB f) := ((shotsB_in f 8).app (be8_in _)).app (be8_in _)
theorem sum_take {l : List Int} {i : Nat} (h : i < l.length) : (l.take (i + 1)).foldl mixS 2166136261 = mixS ((l.take i).foldl mixS 2166136261) (nth l i) := by
  have e : l.take (i + 1) = l.take i ++ [nth l i] := by
    rw [List.take_succ_eq_append_getElem h]
    simp [nth, List.getD_eq_getElem?_getD, List.getElem?_eq_getElem h]
  rw [e, List.foldl_append]
  rfl

set_option maxRecDepth 100000 in
set_option maxHeartbeats 4000000 in
theorem sum_any (w : World) (f : F) (hw : Wf f) :
    Calls Try.prog 33 #[stV f] w fun e w' => e = .returned (.int .u32 (sumL (stB f))) ∧ Below w.heap.size w w' := by
  obtain ⟨C, LC⟩ := let_of f
  obtain ⟨W1, hW1⟩ : ∃ W1, W1 = w.alloc (.cells C 31) := ⟨_, rfl⟩
  have hS : Blk W1 w.heap.size 31 C := by rw [hW1]; exact Blk.new _ _ _
  have hB : Below w.heap.size w W1 := by rw [hW1]; exact (Below.refl _ w).alloc (Nat.le_refl _) _
  have hif := LC.info
  have p := Lib.hid (bytes_any W1 f hw)
  unfold stV at p ⊢
  rw [← LC.eq] at p ⊢
  have hin := Lib.hid (stB_in f)
  have hlen := stB_len f
  obtain ⟨L, hL⟩ : ∃ L, stB f = L := ⟨_, rfl⟩
  rw [hL] at p hin hlen ⊢
  have HLEN := Lib.hid hlen
  have hl1 : L.length ≤ 1000 := by omega
  clear hw LC hL hlen
  go_enter Try.func33, Try.ntmps33
  go_upto_region 2 with fail
  rw [← hW1]
  clear hW1
  go_wp2_with (refine wpList_load_blk (by rfl) 31 _ (by rfl) w.heap.size (by rfl) _ C _ hS Try.underlying31 (by rfl) hif ?_)
  refine p.out.mono ?_
  rintro e w2 ⟨v, rfl, R⟩
  have hBB := hB.trans (R.below.mono hB.size)
  rcases On.form R.out with ⟨hv, hn, _⟩ | ⟨g, cap, rfl, hnc, hcm, how, hgl, hcell, hfr⟩
  · exact absurd hn (by have := HLEN.out; omega)
  · have HC := Lib.hid hcell
    clear p R hcell hfr how hS hB
    go_wp2_with fail
    go_loopw [3, 9] (fun hv iv wr => ∃ i : Nat, i ≤ L.length ∧ iv = .int .i64 i ∧ hv = .int .u32 ((L.take i).foldl mixS 2166136261) ∧ wr = w2) (fun _ iv _ => L.length - (intOf iv).toNat)
    case atStart => exact ⟨0, by omega, rfl, rfl, by first | trivial | rfl⟩
    case round =>
      obtain ⟨i, hi, rfl, rfl, rfl⟩ := hrel
      by_cases hlt : i < L.length
      · have i0 : (i : Int) < (L.length : Int) := by omega
        have i1 : (0 : Int) ≤ (i : Int) := by omega
        have HS := Lib.hid (sum_take hlt)
        have hnth : L[i]? = some (nth L i) := by simp [nth, List.getD_eq_getElem?_getD, List.getElem?_eq_getElem hlt]
        have hb := hin.out (nth L i) (List.mem_of_getElem? hnth)
        have ck := HC.out i (.int .u8 (nth L i)) (by unfold ub; rw [List.getElem?_map, hnth]; rfl)
        generalize (L.take i).foldl mixS 2166136261 = h at *
        generalize nth L i = b at *
        have hwb : IntKind.u32.wrap b = b := IntWalk.u32_in _ (by omega)
        clear hnth
        go_wp2_with fail
        go_roundw
        case rel => exact ⟨i + 1, by omega, by go_num, by rw [HS.out]; rfl, by first | trivial | rfl⟩
        case measure => simp [intOf]; omega
      · obtain rfl : i = L.length := by omega
        have HP := Lib.hid (show L.take L.length = L from List.take_length)
        go_wp2_with fail
        go_ret
        exact ⟨ret_int (by rw [HP.out]; rfl), hBB⟩
end Go.Proofs.Ytlhoffhagfhbcaa.Gm
namespace Go.Proofs.Ytlhoffhagfhbcaa.Gm
open Go.RowKit Go.Sort Go.Proofs.Ytlhoffhagfhbcaa.Num Go.Proofs.Ytlhoffhagfhbcaa.Byt
set_option linter.all false

def endB (u : Nat) : Nat → List Int
  | 0 => []
  | j + 1 => ((u / 256 ^ j % 256 : Nat) : Int) :: endB u j
theorem endB_len (u : Nat) : ∀ j, (endB u j).length = j
  | 0 => rfl
  | j + 1 => by simp [endB, endB_len u j]
theorem endB4 (u : Nat) : endB u 4 = be4 u := by
  simp only [endB, be4, List.cons.injEq]
  refine ⟨?_, ?_, ?_, ?_, trivial⟩ <;> omega
theorem endB8 (u : Nat) : endB u 8 = be8 u := by
  simp only [endB, be8, be4, List.cons_append, List.nil_append, List.cons.injEq]
  refine ⟨?_, ?_, ?_, ?_, ?_, ?_, ?_, ?_, trivial⟩ <;> omega
def partB (u n j : Nat) : List Value := List.replicate (n - j) (Value.int .u8 0) ++ ub (endB u j)
theorem partB_len (u n j : Nat) (h : j ≤ n) : (partB u n j).length = n := by simp [partB, ub, endB_len]; omega
theorem partB_set (u n j : Nat) (h : j < n) : (partB u n j).set (n - j - 1) (Value.int .u8 ((u / 256 ^ j % 256 : Nat) : Int)) = partB u n (j + 1) := by
  unfold partB
  obtain ⟨m, rfl⟩ : ∃ m, n = m + 1 + j := ⟨n - j - 1, by omega⟩
  rw [show m + 1 + j - j = m + 1 by omega, show m + 1 - 1 = m by omega, show m + 1 + j - (j + 1) = m by omega]
  rw [List.replicate_succ', List.append_assoc, List.set_append, if_neg (by simp), List.length_replicate, Nat.sub_self]
  rfl
/-- What a function that makes bytes of its own hands back. -/
def Made (w : World) (n : Nat) (l : List Int) (e : Ending) (w' : World) : Prop := ∃ v, e = .returned v ∧ On w' 5 1 v n (ub l) ∧ Below w.heap.size w w' ∧ (∀ g, v.ownBlock = some g → w.heap.size ≤ g)

set_option maxRecDepth 100000 in
set_option maxHeartbeats 4000000 in
theorem rbytes_any (w : World) (u n : Nat) (hu : u < 18446744073709551616) (hn : n = 8 ∨ n = 4) :
    Calls Try.prog 71 #[.int .u64 u, .int .i64 n] w (Made w n (endB u n)) := by
  have hmk : ∀ W : World, (Instr.makeSlice 61 (.int .i64 (n : Int)) (.int .i64 (n : Int))).run Try.prog W = .ok (.slice (some ⟨W.heap.size, 0, none⟩) n n) (W.alloc (.cells (partB u n 0).toArray 5)) := by
    intro W
    rcases hn with rfl | rfl
    · show _ = _; kernel_rfl
    · show _ = _; kernel_rfl
  have hn1 : n ≤ 8 := by omega
  have h0 : On (w.alloc (.cells (partB u n 0).toArray 5)) 5 1 (.slice (some ⟨w.heap.size, 0, none⟩) n n) n (partB u n 0) :=
    ⟨by rw [partB_len u n 0 (Nat.zero_le _)]; omega, .inr ⟨w.heap.size, n, _, rfl, heap_new w _, Nat.le_refl _, by simp only [maxLen]; omega, by simp [partB_len u n 0 (Nat.zero_le _)], by rw [Nat.mul_one]; show List.take n (partB u n 0) = _; exact List.take_of_length_le (by rw [partB_len u n 0 (Nat.zero_le _)]; exact Nat.le_refl _)⟩⟩
  have hB0 : Below w.heap.size w (w.alloc (.cells (partB u n 0).toArray 5)) := (Below.refl _ w).alloc (Nat.le_refl _) _
  have hw1 : IntKind.i64.wrap ((n : Int) - 1) = (n : Int) - 1 := IntWalk.i64_in _ (by omega)
  have hpos : 0 < n := by omega
  go_enter Try.func71, Try.ntmps71
  go_wp2_with fail
  generalize w.alloc (.cells (partB u n 0).toArray 5) = W1 at *
  clear hmk
  go_loopw [0, 6] (fun uv iv wr => ∃ j : Nat, j ≤ n ∧ iv = .int .i64 ((n : Int) - 1 - (j : Int)) ∧ uv = .int .u64 ((u / 256 ^ j : Nat) : Int) ∧ On wr 5 1 (.slice (some ⟨w.heap.size, 0, none⟩) n n) n (partB u n j) ∧ Below w.heap.size w wr) (fun _ iv _ => (intOf iv + 1).toNat)
  case atStart => exact ⟨0, by omega, by simp, by simp, h0, hB0⟩
  case round =>
    clear h0 hB0
    obtain ⟨j, hj, rfl, rfl, hO, hB⟩ := hrel
    by_cases hlt : j < n
    · obtain ⟨i, hi⟩ : ∃ i : Nat, (n : Int) - 1 - (j : Int) = (i : Int) := ⟨n - j - 1, by omega⟩
      have hi2 : i = n - j - 1 := by omega
      rw [hi]
      have i1 : (i : Int) < (n : Int) := by omega
      have i0 : (0 : Int) ≤ (i : Int) := by omega
      have hset := hO.store i (.int .u8 ((u / 256 ^ j % 256 : Nat) : Int))
      rw [hi2, partB_set u n j hlt, ← hi2] at hset
      have hdiv : u / 256 ^ j / 256 = u / 256 ^ (j + 1) := by rw [Nat.div_div_eq_div_mul, ← Nat.pow_succ]
      have HD := Lib.hid hdiv
      have hle : u / 256 ^ j ≤ u := Nat.div_le_self _ _
      have hB2 : Below w.heap.size w (wr.setCell ⟨w.heap.size, i, none⟩ (.int .u8 ((u / 256 ^ j % 256 : Nat) : Int))) := hB.setCell (Nat.le_refl _) _
      rcases hO.form with ⟨hv, _⟩ | ⟨g, cap, hv, hnc, hcm, how, hgl, hcell, hfr⟩
      · cases hv
      · cases hv
        have hlen := partB_len u n j hj
        have ci := hcell i ((partB u n j)[i]'(by omega)) (List.getElem?_eq_getElem (by omega))
        have fi := hfr i
        have HI := Lib.hid hi
        generalize (partB u n j)[i]'_ = old at ci
        have HS := Lib.hid hset
        have HB := Lib.hid hB2
        generalize u / 256 ^ j = x at *
        have hwx : IntKind.u8.wrap ((x : Int) % 256) = (x : Int) % 256 := IntWalk.u8_in _ (by omega)
        clear hi hi2 hset hdiv hB2 hO hB hcell hfr how hnc hcm hlen
        go_wp2_with fail
        go_roundw
        case rel => exact ⟨j + 1, by omega, by have := HI.out; (first | (congr 1; omega) | congr 1), by rw [← HD.out]; (try congr 1), by simpa using HS.out, by simpa using HB.out⟩
        case measure => have := HI.out; simp [intOf] <;> omega
    · obtain rfl : j = n := by omega
      rw [show (j : Int) - 1 - (j : Int) = -1 by omega]
      have HO := Lib.hid hO
      clear hO
      go_wp2_with fail
      go_ret
      refine ⟨_, rfl, ?_, hB, fun g hg => by cases hg; exact Nat.le_refl _⟩
      have := HO.out
      unfold partB at this
      rwa [Nat.sub_self] at this
theorem natAbs_u64 (z : Int) : ∃ u : Nat, IntKind.u64.wrap z = (u : Int) ∧ u < 18446744073709551616 := ⟨(IntKind.u64.wrap z).toNat, by simp [IntKind.wrap, IntKind.bits, IntKind.signed]; omega, by simp [IntKind.wrap, IntKind.bits, IntKind.signed]; omega⟩

set_option maxRecDepth 100000 in
set_option maxHeartbeats 2000000 in
theorem rput_any (w : World) (v : Value) (xs : List Int) (z : Int) (h : Out w v xs) (hl : xs.length ≤ 900000) :
    Calls Try.prog 70 #[v, .int .i64 z] w (Puts w v (xs ++ be8 z)) := by
  obtain ⟨u, hu, hu2⟩ := natAbs_u64 z
  have HE := Lib.hid (show be8 z = endB u 8 by rw [endB8, ← hu, be8_wrap])
  have p := Lib.hid (rbytes_any w u 8 hu2 (.inl rfl))
  have H := Lib.hid h
  have HL := Lib.hid hl
  clear h hl
  obtain ⟨i0, hi, hz0, hz1, hz2⟩ := info_parts info8
  go_enter Try.func70, Try.ntmps70
  go_wp2_with fail
  refine p.out.mono ?_
  rintro e w1 ⟨v1, rfl, o1, b1, g1⟩
  have hO := Lib.hid (On.below H.out b1 H.out.lt)
  obtain ⟨a1, c1, rfl, hc1, hm1⟩ := o1.slice
  have hsrc := o1.src
  have hel : (ub (endB u 8)).length = 8 * 1 := by rw [ub_len, endB_len]
  go_wp2_with (at_builtin; refine wpList_append_on _ (by rfl) _ _ 61 (by rfl) 5 i0 _ 1 1 Try.underlying61 hi hz0 hz1 hz2 (by rfl) (by omega) v xs.length (ub xs) (by rfl) hO.out a1 8 c1 (ub (endB u 8)) (by rfl) hel hsrc (ub_one _) (by have := HL.out; simp only [maxLen]; omega) (by have := HL.out; omega) ?_; intro v' w' hon hg hv')
  go_ret
  have hb1 := b1.size
  refine ⟨v', rfl, ?_, ?_, fun g hg' => ?_⟩
  · unfold Out
    rw [HE.out, List.length_append, endB_len, ub_app]
    exact hon
  · exact (Touch.of_below b1 : Touch (OwnB v) w w1).grown hg (fun k hk => .inl hk)
  · rcases hv' with e | e
    · exact .inl (by rw [← e]; exact hg')
    · rw [e] at hg'; cases hg'; exact .inr hb1
end Go.Proofs.Ytlhoffhagfhbcaa.Gm
