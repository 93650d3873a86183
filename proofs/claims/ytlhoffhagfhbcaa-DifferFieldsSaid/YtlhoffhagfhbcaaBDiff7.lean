/-
  Texts joined: DfE. No condition.
-/
import Derived.Test.YtlhoffhagfhbcaaBDiff6
namespace Go.Proofs.Ytlhoffhagfhbcaa.Dif
open Go.RowKit Go.Proofs.Ytlhoffhagfhbcaa.Byt Go.Proofs.Ytlhoffhagfhbcaa.Gm Go.Proofs.Ytlhoffhagfhbcaa.Num
set_option linter.all false

def bodyW : ByteArray := { data := #[98, 111, 100, 121, 32] }
def shotW : ByteArray := { data := #[115, 104, 111, 116, 32] }
def scoreW : ByteArray := { data := #[115, 99, 111, 114, 101, 32] }
def bNum (f : F) (o : Nat) : List Int := [f o, f (o + 1), f (o + 2), f (o + 3), f (o + 4), f (o + 5), f (o + 6)]
def sNum (f : F) (o : Nat) : List Int := [if onB (f o) then 1 else 0, f (o + 1), f (o + 2), f (o + 3), f (o + 4), f (o + 5)]
def bodyH (i : Nat) : ByteArray := bodyW ++ numS (i : Int) ++ spS
def shotH (i : Nat) : ByteArray := shotW ++ numS (i : Int) ++ spS
def fld2 (f : F) : List (ByteArray × Int) := [({ data := #[102, 114, 97, 109, 101] }, f 0), ({ data := #[115, 101, 101, 100] }, f 1)]
def fldB (f : F) : Nat → List (ByteArray × Int)
  | 0 => fld2 f
  | i + 1 => fldB f i ++ namedF (bodyH i) bodyNm (bNum f (2 + i * 7)) 7
def fldS (f : F) : Nat → List (ByteArray × Int)
  | 0 => fldB f 2
  | k + 1 => fldS f k ++ namedF (shotH k) shotNm (sNum f (16 + k * 6)) 6
def fldC (f : F) : Nat → List (ByteArray × Int)
  | 0 => fldS f 8
  | i + 1 => fldC f i ++ [(scoreW ++ numS (i : Int), f (64 + i))]
theorem fldB_len (f : F) : ∀ i, (fldB f i).length = 2 + i * 7
  | 0 => rfl
  | i + 1 => by rw [fldB, List.length_append, fldB_len f i, namedF_len]; omega
theorem fldS_len (f : F) : ∀ k, (fldS f k).length = 16 + k * 6
  | 0 => by rw [fldS, fldB_len]
  | k + 1 => by rw [fldS, List.length_append, fldS_len f k, namedF_len]; omega
theorem fldC_len (f : F) : ∀ i, (fldC f i).length = 64 + i
  | 0 => by rw [fldC, fldS_len]
  | i + 1 => by rw [fldC, List.length_append, fldC_len f i, List.length_singleton]; omega
theorem bArr_num (f : F) (o : Nat) : bArr f o = ((bNum f o).map (Value.int .i64)).toArray := rfl
theorem MkF.new (W : World) (fs : List (ByteArray × Int)) (h : fs.length ≤ 1000) : MkF W (.slice (some ⟨W.heap.size, 0, none⟩) fs.length fs.length) fs (W.alloc (.cells (flat fcs fs).toArray 40)) := by
  refine ⟨⟨flat_len fcs_len fs, .inr ⟨W.heap.size, fs.length, _, rfl, heap_new W _, Nat.le_refl _, by simp only [maxLen]; omega, ?_, ?_⟩⟩, (Below.refl _ W).alloc (Nat.le_refl _) _, fun g hg => by cases hg; exact Nat.le_refl _⟩
  · simp [flat_len fcs_len fs]
  · rw [List.take_of_length_le (by simp [flat_len fcs_len fs])]
/-- Nothing has turned since. -/
def Bw (W0 W : World) : Prop := Below W0.heap.size W0 W
theorem Bw.drew0 (W0 : World) : Bw W0 W0.drew := (Below.refl _ W0).drew
theorem Bw.al {W0 W : World} (h : Bw W0 W) (o : Obj) : Bw W0 (W.alloc o) := Below.alloc h h.size o
theorem Bw.go {W0 W W' : World} (h : Bw W0 W) (b : Below W.heap.size W W') : Bw W0 W' := Below.trans h (b.mono h.size)
theorem Bw.touch {W0 W W' : World} {S : Nat → Prop} (h : Bw W0 W) (t : Touch S W W') (hs : ∀ k, S k → W0.heap.size ≤ k) : Bw W0 W' := Below.trans h (t.below h.size hs)
theorem info29 : (Try.prog.info? 29).map (·.size) = some 2 := by kernel_rfl
theorem idx29 (f : F) (i : Nat) (hi : i < 2) (W : World) : (Instr.index 29 (.agg ((stA f).extract 64 66).toList.toArray) (.int .i64 i)).run Try.prog W = .ok (.int .i64 (f (64 + i))) W := by
  match i, hi with
  | 0, _ => show _ = _; kernel_rfl
  | 1, _ => show _ = _; kernel_rfl
theorem row_new (W : World) (l : List Int) (n : Nat) (h : l.length = n) (A : Array Value) (hA : A = (l.map (Value.int .i64)).toArray) : Row .i64 (W.alloc (.cells A 2)) (some ⟨W.heap.size, 0, none⟩) n l := by
  subst hA
  refine ⟨h, fun _ => ⟨_, _, rfl, by simp, fun j hj => ?_⟩⟩
  rw [Nat.zero_add, (Blk.new W 2 (l.map (Value.int .i64)).toArray).cell j]
  simp [nth, List.getD, h, hj]
theorem Bw.one (W : World) (o : Obj) : Below W.heap.size W (W.alloc o) := (Below.refl _ W).alloc (Nat.le_refl _) o
theorem MkF.sb {W1 W : World} {v : Value} {fs : List (ByteArray × Int)} {g : Nat} {t : TypeId} {f : F} (h : MkF W1 v fs W) (hs : SB W1 g t f) : SB W g t f := hs.below h.below (SB.lt hs)

set_option maxRecDepth 100000 in
set_option maxHeartbeats 8000000 in
theorem fields_any (w : World) (f : F) (hw : Wf f) :
    Calls Try.prog 15 #[stV f] w fun e w' => ∃ v, e = .returned v ∧ MkF w v (fldC f 2) w' := by
  obtain ⟨i0, hi, hz0, hz1, hz2⟩ := info_parts infoF
  obtain ⟨W1, hW1⟩ : ∃ W1, W1 = w.alloc (.cells (stA f) 31) := ⟨_, rfl⟩
  have hS : SB W1 w.heap.size 31 f := by rw [hW1]; exact SB.new w _ f
  have hB : Below w.heap.size w W1 := by rw [hW1]; exact (Below.refl _ w).alloc (Nat.le_refl _) _
  have c0 := hS.int (j := 0) (by omega) (by omega) (by omega)
  have c1 := hS.seed
  have HS := Lib.hid hS
  have HB := Lib.hid hB
  have HW := Lib.hid hw
  have s0 := hw.seed
  obtain ⟨W2, hW2⟩ : ∃ W2, W2 = W1.alloc (.cells #[.string { data := #[102, 114, 97, 109, 101] }, .int .i64 (f 0), .string { data := #[115, 101, 101, 100] }, .int .i64 (f 1)] 40) := ⟨_, rfl⟩
  have M0 : MkF W1 (.slice (some ⟨W1.heap.size, 0, none⟩) 2 2) (fldB f 0) W2 := by rw [hW2]; exact MkF.new W1 (fld2 f) (by simp [fld2])
  unfold stV
  clear hS hB hw
  go_enter Try.func15, Try.ntmps15
  go_upto_region 1 with fail
  rw [← hW1]
  clear hW1
  go_upto_region 2 with fail
  rw [← hW2]
  clear hW2 c0 c1 s0
  obtain ⟨L25, hL25⟩ : ∃ L, L = ((stA f).extract 2 16).toList := ⟨_, rfl⟩
  have hr25 : W2.rangeAt w.heap.size 2 L25 := by rw [hL25]; exact World.rangeAt_of_block (M0.sb HS.out) 2 14
  have hn25 : L25.length = 14 := by rw [hL25]; simp [stA]
  have I25 := Lib.hid (show ∀ i : Nat, i < 2 → ∀ W : World, (Instr.index 25 (.agg L25.toArray) (.int .i64 i)).run Try.prog W = .ok (.agg (bodL (bod f (2 + i * 7))).toArray) W from fun i hi W => by rw [hL25]; exact idx27 f i hi W)
  clear hL25
  have hi25 : (Try.prog.info? 25).map (·.size) = some L25.length := by rw [hn25]; exact info27
  go_wp2_with (refine wpList_load_mid (by rfl) 25 _ (by rfl) w.heap.size 2 (by rfl) L25 _ hr25 Try.underlying25 (by rfl) hi25 ?_)
  clear hr25 hi25 hn25
  go_loopw [3, 20] (fun v iv wr => ∃ i : Nat, i ≤ 2 ∧ iv = .int .i64 i ∧ MkF W1 v (fldB f i) wr) (fun _ iv _ => 2 - (intOf iv).toNat)
  case atStart => exact ⟨0, by omega, rfl, M0⟩
  case round =>
    clear M0
    obtain ⟨i, hi', rfl, hm⟩ := hrel
    obtain ⟨a, c, rfl⟩ := hm.slice
    obtain ⟨wo, rfl⟩ : ∃ wo : World, wo = wr := ⟨_, rfl⟩
    by_cases hlt : i < 2
    · have i1 : (0 : Int) ≤ (i : Int) := by omega
      have i2 : (i : Int) < 2 := by omega
      have hx := I25.out i hlt
      unfold bodL at hx
      simp only [bod] at hx
      have HE := Lib.hid (show fldB f (i + 1) = fldB f i ++ namedF (bodyH i) bodyNm (bNum f (2 + i * 7)) 7 from rfl)
      have hlen := fldB_len f i
      have HM := Lib.hid hm
      clear hm
      generalize fldB f i = fs at *
      go_upto_region 5 with fail
      obtain ⟨Wb, hWb⟩ : ∃ Wb, Wb = wo.alloc (.cells #[.int .i64 (f (2 + i * 7)), .int .i64 (f (2 + i * 7 + 1)), .int .i64 (f (2 + i * 7 + 2)), .int .i64 (f (2 + i * 7 + 3)), .int .i64 (f (2 + i * 7 + 4)), .int .i64 (f (2 + i * 7 + 5)), .int .i64 (f (2 + i * 7 + 6))] 24) := ⟨_, rfl⟩
      obtain ⟨gb, hgb⟩ : ∃ gb, gb = wo.heap.size := ⟨_, rfl⟩
      have hB : Blk Wb gb 24 (bArr f (2 + i * 7)) := by rw [hWb, hgb]; exact Blk.new _ _ _
      have hbw : Below wo.heap.size wo Wb := by rw [hWb]; exact (Below.refl _ wo).alloc (Nat.le_refl _) _
      have hgl : gb < Wb.heap.size := Blk.lt hB
      rw [← hWb, ← hgb]
      have k0 := hB.cell 0
      have k1 := hB.cell 1
      have k2 := hB.cell 2
      have k3 := hB.cell 3
      have k4 := hB.cell 4
      have k5 := hB.cell 5
      have k6 := hB.cell 6
      simp only [bArr] at k0 k1 k2 k3 k4 k5 k6
      simp at k0 k1 k2 k3 k4 k5 k6
      have HBB := Lib.hid hB
      have HBW := Lib.hid hbw
      have HGB := Lib.hid hgb
      have HL := Lib.hid hlen
      clear hWb hB hbw hx hlen hgb
      have HN := Lib.hid (show ∀ W, Calls Try.prog 56 #[.int .i64 (i : Int)] W fun e w' => e = .returned (.string (numS (i : Int))) ∧ Below W.heap.size W w' from fun W => num_any W (i : Int) (by omega) (by omega))
      have hns := numS_size (n := (i : Int)) (by omega) (by omega)
      have g1 : ¬ 9223372036854775807 < 5 + (numS (i : Int)).size := by omega
      have g2 : ¬ 9223372036854775807 < (({ data := #[98, 111, 100, 121, 32] } : ByteArray) ++ numS (i : Int)).size + 1 := by rw [ByteArray.size_append]; simp only [show ({ data := #[98, 111, 100, 121, 32] } : ByteArray).size = 5 from rfl]; omega
      have g3 : ¬ 9223372036854775807 < 5 + (numS (i : Int)).size + 1 := by omega
      have HNA := Lib.hid (show ∀ W an al, SRow W an bodyNm → Row .i64 W al 7 (bNum f (2 + i * 7)) → Calls Try.prog 55 #[.string (({ data := #[98, 111, 100, 121, 32] } : ByteArray) ++ numS (i : Int) ++ ({ data := #[32] } : ByteArray)), .slice an 7 7, .slice al 7 7] W fun e w' => ∃ a5 c5, e = .returned (.slice a5 7 c5) ∧ MkF W (.slice a5 7 c5) (namedF (bodyH i) bodyNm (bNum f (2 + i * 7)) 7) w' from fun W an al h1 h2 => (named_any W (bodyH i) an al 7 7 bodyNm (bNum f (2 + i * 7)) h1 h2 (by simp [bNum, bodyNm]) (by simp [bNum]) (by simp only [bodyH, ByteArray.size_append, show bodyW.size = 5 from rfl, show spS.size = 1 from rfl]; omega) (fun j hj => by
        have : j < 7 := hj
        have : j = 0 ∨ j = 1 ∨ j = 2 ∨ j = 3 ∨ j = 4 ∨ j = 5 ∨ j = 6 := by omega
        rcases this with rfl | rfl | rfl | rfl | rfl | rfl | rfl <;> decide)).mono (by
        rintro e w' ⟨v, rfl, m⟩
        obtain ⟨a5, c5, hv, -⟩ := On.slice m.out
        rw [show (bNum f (2 + i * 7)).length = 7 from rfl, namedF_len] at hv
        subst hv
        exact ⟨a5, c5, rfl, m⟩))
      have HSC := Lib.hid (show ∀ W, Bw Wb W → W.cell? ⟨gb, 0, none⟩ = some (.int .i64 (f (2 + i * 7))) ∧ W.cell? ⟨gb, 1, none⟩ = some (.int .i64 (f (2 + i * 7 + 1))) ∧ W.cell? ⟨gb, 2, none⟩ = some (.int .i64 (f (2 + i * 7 + 2))) ∧ W.cell? ⟨gb, 3, none⟩ = some (.int .i64 (f (2 + i * 7 + 3))) ∧ W.cell? ⟨gb, 4, none⟩ = some (.int .i64 (f (2 + i * 7 + 4))) ∧ W.cell? ⟨gb, 5, none⟩ = some (.int .i64 (f (2 + i * 7 + 5))) ∧ W.cell? ⟨gb, 6, none⟩ = some (.int .i64 (f (2 + i * 7 + 6))) from fun W h => ⟨(Below.cell (p := ⟨gb, 0, none⟩) h hgl).trans k0, (Below.cell (p := ⟨gb, 1, none⟩) h hgl).trans k1, (Below.cell (p := ⟨gb, 2, none⟩) h hgl).trans k2, (Below.cell (p := ⟨gb, 3, none⟩) h hgl).trans k3, (Below.cell (p := ⟨gb, 4, none⟩) h hgl).trans k4, (Below.cell (p := ⟨gb, 5, none⟩) h hgl).trans k5, (Below.cell (p := ⟨gb, 6, none⟩) h hgl).trans k6⟩)
      have d0 := Bw.drew0 Wb
      have HRN := Lib.hid (show ∀ W, Row .i64 (W.alloc (.cells #[.int .i64 (f (2 + i * 7)), .int .i64 (f (2 + i * 7 + 1)), .int .i64 (f (2 + i * 7 + 2)), .int .i64 (f (2 + i * 7 + 3)), .int .i64 (f (2 + i * 7 + 4)), .int .i64 (f (2 + i * 7 + 5)), .int .i64 (f (2 + i * 7 + 6))] 2)) (some ⟨W.heap.size, 0, none⟩) 7 (bNum f (2 + i * 7)) from fun W => row_new W _ 7 rfl _ rfl)
      have HOW := Lib.hid (show ∀ W, Bw Wb W → On W 40 2 (.slice a fs.length c) fs.length (flat fcs fs) from fun W h => On.below HM.out.out (Below.trans HBW.out (Below.mono h HBW.out.size)) (On.lt HM.out.out))
      have HGR := Lib.hid (show ∀ W W', Bw Wb W → W.grownBy W' (Value.slice a fs.length c).ownBlock → W'.cell? ⟨gb, 0, none⟩ = some (.int .i64 (f (2 + i * 7))) ∧ W'.cell? ⟨gb, 1, none⟩ = some (.int .i64 (f (2 + i * 7 + 1))) ∧ W'.cell? ⟨gb, 2, none⟩ = some (.int .i64 (f (2 + i * 7 + 2))) ∧ W'.cell? ⟨gb, 3, none⟩ = some (.int .i64 (f (2 + i * 7 + 3))) ∧ W'.cell? ⟨gb, 4, none⟩ = some (.int .i64 (f (2 + i * 7 + 4))) ∧ W'.cell? ⟨gb, 5, none⟩ = some (.int .i64 (f (2 + i * 7 + 5))) ∧ W'.cell? ⟨gb, 6, none⟩ = some (.int .i64 (f (2 + i * 7 + 6))) from fun W W' h hg => by
        have hne : some gb ≠ (Value.slice a fs.length c).ownBlock := fun e => by
          have := On.lt HM.out.out gb e.symm
          rw [HGB.out] at this
          omega
        have hk : W'.heap[gb]? = W.heap[gb]? := hg.block gb (Nat.lt_of_lt_of_le hgl (Below.size h)) hne
        obtain ⟨e0, e1, e2, e3, e4, e5, e6⟩ := HSC.out W h
        exact ⟨(World.cell?_of_block (a := ⟨gb, 0, none⟩) hk).trans e0, (World.cell?_of_block (a := ⟨gb, 1, none⟩) hk).trans e1, (World.cell?_of_block (a := ⟨gb, 2, none⟩) hk).trans e2, (World.cell?_of_block (a := ⟨gb, 3, none⟩) hk).trans e3, (World.cell?_of_block (a := ⟨gb, 4, none⟩) hk).trans e4, (World.cell?_of_block (a := ⟨gb, 5, none⟩) hk).trans e5, (World.cell?_of_block (a := ⟨gb, 6, none⟩) hk).trans e6⟩)
      have HFIN := Lib.hid (show ∀ w5 w6 v6, Bw Wb w5 → On w6 40 2 v6 (fs.length + 7) (flat fcs fs ++ flat fcs (namedF (bodyH i) bodyNm (bNum f (2 + i * 7)) 7)) → w5.grownBy w6 (Value.slice a fs.length c).ownBlock → (v6.ownBlock = (Value.slice a fs.length c).ownBlock ∨ v6.ownBlock = some w5.heap.size) → MkF W1 v6 (fldB f (i + 1)) w6 from fun w5 w6 v6 d h1 h2 h3 => by
        rw [HE.out]
        refine HM.out.app (Below.trans HBW.out (Below.mono d HBW.out.size)) ?_ h2 h3
        rw [namedF_len]
        exact h1)
      have h7a : fs.length + 7 ≤ maxLen := by have := HL.out; simp only [maxLen]; omega
      have h7b : (fs.length + 7) * 24 ≤ 140737488355328 := by have := HL.out; omega
      go_region_held3 (fun w' => w'.cell? ⟨gb, 0, none⟩ = some (.int .i64 (f (2 + i * 7))) ∧ w'.cell? ⟨gb, 1, none⟩ = some (.int .i64 (f (2 + i * 7 + 1))) ∧ w'.cell? ⟨gb, 2, none⟩ = some (.int .i64 (f (2 + i * 7 + 2))) ∧ w'.cell? ⟨gb, 3, none⟩ = some (.int .i64 (f (2 + i * 7 + 3))) ∧ w'.cell? ⟨gb, 4, none⟩ = some (.int .i64 (f (2 + i * 7 + 4))) ∧ w'.cell? ⟨gb, 5, none⟩ = some (.int .i64 (f (2 + i * 7 + 5))) ∧ w'.cell? ⟨gb, 6, none⟩ = some (.int .i64 (f (2 + i * 7 + 6)))) (first | exact ⟨k0, k1, k2, k3, k4, k5, k6⟩ | exact HSC.out _ d0 | exact HSC.out _ (d0.al _) | exact HSC.out _ d2 | exact HSC.out _ (d2.al _) | exact HSC.out _ ((d2.al _).al _) | exact HSC.out _ d5 | exact d6)
        (first
          | (go_at_call 56; refine (HN.out _).mono ?_; rintro e w2 ⟨rfl, b2⟩; have d2 : Bw Wb w2 := (by first | exact d0.go b2 | exact (d0.al _).go b2 | fail))
          | (go_at_call 57; refine (bnames_any _).mono ?_; rintro e w3 ⟨rfl, rfl⟩)
          | (go_at_call 55; refine (HNA.out _ _ _ ?hs ?hr).mono ?_
             case hs => first | exact srow_new _ _ | exact (srow_new _ _).below (Bw.one _ _) | (have := srow_new (w2.alloc (.cells #[.int .i64 (f (2 + i * 7)), .int .i64 (f (2 + i * 7 + 1)), .int .i64 (f (2 + i * 7 + 2)), .int .i64 (f (2 + i * 7 + 3)), .int .i64 (f (2 + i * 7 + 4)), .int .i64 (f (2 + i * 7 + 5)), .int .i64 (f (2 + i * 7 + 6))] 2)) bodyNm; simpa using this) | fail
             case hr => first | exact (HRN.out _) | exact (HRN.out w2).below (Bw.one _ _) | (have := HRN.out (w2.alloc (.cells (bodyNm.map Value.string).toArray 9)); simpa using this) | exact (HRN.out Wb.drew).below (Bw.go b2 (Bw.one _ _)) | fail
             rintro e w5 ⟨a5, c5, rfl, m5⟩
             have d5 : Bw Wb w5 := (by first | exact (d2.al _).go m5.below | exact ((d2.al _).al _).go m5.below | fail)
             have o5 := HOW.out w5 d5
             have r5 := On.src m5.out
             have n5 := flat_len fcs_len (namedF (bodyH i) bodyNm (bNum f (2 + i * 7)) 7))
          | (refine step_append_on _ (by rfl) (.tmp 24) (.tmp 45) _ (by rfl) 40 i0 _ 2 24 Try.underlying33 hi hz0 hz1 hz2 (by rfl) (by omega) (.slice a fs.length c) fs.length (flat fcs fs) (by rfl) (by exact o5) a5 7 c5 (flat fcs (namedF (bodyH i) bodyNm (bNum f (2 + i * 7)) 7)) (by rfl) (by exact n5) (by exact r5) (one_flat fcs_one _) h7a h7b ?_
             intro v6 w6 on6 g6 h6
             have d6 := HGR.out w5 w6 d5 g6
             have m6 := HFIN.out w5 w6 v6 d5 on6 g6 h6)
          | fail)
      all_goals
        go_wp2_with fail
        go_roundw
        case rel => exact ⟨i + 1, by omega, by go_num, m6⟩
        case measure => simp [intOf]; omega
    · obtain rfl : i = 2 := by omega
      rw [show ((2 : Nat) : Int) = 2 from rfl]
      clear hlt hi' I25
      have M2 : MkF W1 (.slice a (fldB f 2).length c) (fldS f 0) wo := hm
      rw [fldB_len] at M2 ⊢
      clear hm
      obtain ⟨L28, hL28⟩ : ∃ L, L = ((stA f).extract 16 64).toList := ⟨_, rfl⟩
      have hr28 : wo.rangeAt w.heap.size 16 L28 := by rw [hL28]; exact World.rangeAt_of_block (M2.sb HS.out) 16 48
      have hn28 : L28.length = 48 := by rw [hL28]; simp [stA]
      have I28 := Lib.hid (show ∀ k : Nat, k < 8 → ∀ W : World, (Instr.index 28 (.agg L28.toArray) (.int .i64 k)).run Try.prog W = .ok (.agg (shoL (sho f (16 + k * 6))).toArray) W from fun k hk W => by rw [hL28]; exact idx30 f k hk W)
      clear hL28
      have hi28 : (Try.prog.info? 28).map (·.size) = some L28.length := by rw [hn28]; exact info30
      go_upto_region 7 with fail
      go_wp2_with (refine wpList_load_mid (by rfl) 28 _ (by rfl) w.heap.size 16 (by rfl) L28 _ hr28 Try.underlying28 (by rfl) hi28 ?_)
      clear hr28 hi28 hn28
      go_loopw [3, 50] (fun v kv wr => ∃ k : Nat, k ≤ 8 ∧ kv = .int .i64 k ∧ MkF W1 v (fldS f k) wr) (fun _ kv _ => 8 - (intOf kv).toNat)
      case atStart => exact ⟨0, by omega, rfl, M2⟩
      case round =>
        clear M2
        obtain ⟨k, hk', rfl, hm⟩ := hrel
        obtain ⟨sa, sc, rfl⟩ := hm.slice
        obtain ⟨ws, rfl⟩ : ∃ ws : World, ws = wr := ⟨_, rfl⟩
        by_cases hlt : k < 8
        · have i1 : (0 : Int) ≤ (k : Int) := by omega
          have i2 : (k : Int) < 8 := by omega
          have hx := I28.out k hlt
          unfold shoL at hx
          simp only [sho] at hx
          have HE := Lib.hid (show fldS f (k + 1) = fldS f k ++ namedF (shotH k) shotNm (sNum f (16 + k * 6)) 6 from rfl)
          have hlen := fldS_len f k
          have HM := Lib.hid hm
          clear hm
          generalize fldS f k = fs at *
          obtain ⟨B, hBo⟩ : ∃ B, B = onB (f (16 + k * 6)) := ⟨_, rfl⟩
          obtain ⟨z, hz⟩ : ∃ z : Int, z = if B then 1 else 0 := ⟨_, rfl⟩
          have HF := Lib.hid (show ∀ W, Calls Try.prog 59 #[.bool B] W fun e w' => e = .returned (.int .i64 z) ∧ w' = W from fun W => by rw [hz]; exact flag_any W B)
          have hsn : ([z, f (16 + k * 6 + 1), f (16 + k * 6 + 2), f (16 + k * 6 + 3), f (16 + k * 6 + 4), f (16 + k * 6 + 5)] : List Int) = sNum f (16 + k * 6) := by rw [hz, hBo]; rfl
          rw [← hBo] at hx
          clear hz hBo
          go_upto_region 10 with fail
          obtain ⟨Wb, hWb⟩ : ∃ Wb, Wb = ws.alloc (.cells #[.bool B, .int .i64 (f (16 + k * 6 + 1)), .int .i64 (f (16 + k * 6 + 2)), .int .i64 (f (16 + k * 6 + 3)), .int .i64 (f (16 + k * 6 + 4)), .int .i64 (f (16 + k * 6 + 5))] 27) := ⟨_, rfl⟩
          obtain ⟨gb, hgb⟩ : ∃ gb, gb = ws.heap.size := ⟨_, rfl⟩
          have hB : Blk Wb gb 27 #[.bool B, .int .i64 (f (16 + k * 6 + 1)), .int .i64 (f (16 + k * 6 + 2)), .int .i64 (f (16 + k * 6 + 3)), .int .i64 (f (16 + k * 6 + 4)), .int .i64 (f (16 + k * 6 + 5))] := by rw [hWb, hgb]; exact Blk.new _ _ _
          have hbw : Below ws.heap.size ws Wb := by rw [hWb]; exact (Below.refl _ ws).alloc (Nat.le_refl _) _
          have hgl : gb < Wb.heap.size := Blk.lt hB
          rw [← hWb, ← hgb]
          have k0 := hB.cell 0
          have k1 := hB.cell 1
          have k2 := hB.cell 2
          have k3 := hB.cell 3
          have k4 := hB.cell 4
          have k5 := hB.cell 5
          simp at k0 k1 k2 k3 k4 k5
          have HBW := Lib.hid hbw
          have HGB := Lib.hid hgb
          have HL := Lib.hid hlen
          clear hWb hB hbw hx hlen hgb
          have HN := Lib.hid (show ∀ W, Calls Try.prog 56 #[.int .i64 (k : Int)] W fun e w' => e = .returned (.string (numS (k : Int))) ∧ Below W.heap.size W w' from fun W => num_any W (k : Int) (by omega) (by omega))
          have hns := numS_size (n := (k : Int)) (by omega) (by omega)
          have g1 : ¬ 9223372036854775807 < 5 + (numS (k : Int)).size := by omega
          have g3 : ¬ 9223372036854775807 < 5 + (numS (k : Int)).size + 1 := by omega
          have HNA := Lib.hid (show ∀ W an al, SRow W an shotNm → Row .i64 W al 6 (sNum f (16 + k * 6)) → Calls Try.prog 55 #[.string (({ data := #[115, 104, 111, 116, 32] } : ByteArray) ++ numS (k : Int) ++ ({ data := #[32] } : ByteArray)), .slice an 6 6, .slice al 6 6] W fun e w' => ∃ a5 c5, e = .returned (.slice a5 6 c5) ∧ MkF W (.slice a5 6 c5) (namedF (shotH k) shotNm (sNum f (16 + k * 6)) 6) w' from fun W an al h1 h2 => (named_any W (shotH k) an al 6 6 shotNm (sNum f (16 + k * 6)) h1 h2 (by simp [sNum, shotNm]) (by simp [sNum]) (by simp only [shotH, ByteArray.size_append, show shotW.size = 5 from rfl, show spS.size = 1 from rfl]; omega) (fun j hj => by
            have : j < 6 := hj
            have : j = 0 ∨ j = 1 ∨ j = 2 ∨ j = 3 ∨ j = 4 ∨ j = 5 := by omega
            rcases this with rfl | rfl | rfl | rfl | rfl | rfl <;> decide)).mono (by
            rintro e w' ⟨v, rfl, m⟩
            obtain ⟨a5, c5, hv, -⟩ := On.slice m.out
            rw [show (sNum f (16 + k * 6)).length = 6 from rfl, namedF_len] at hv
            subst hv
            exact ⟨a5, c5, rfl, m⟩))
          have HSC := Lib.hid (show ∀ W, Bw Wb W → W.cell? ⟨gb, 0, none⟩ = some (.bool B) ∧ W.cell? ⟨gb, 1, none⟩ = some (.int .i64 (f (16 + k * 6 + 1))) ∧ W.cell? ⟨gb, 2, none⟩ = some (.int .i64 (f (16 + k * 6 + 2))) ∧ W.cell? ⟨gb, 3, none⟩ = some (.int .i64 (f (16 + k * 6 + 3))) ∧ W.cell? ⟨gb, 4, none⟩ = some (.int .i64 (f (16 + k * 6 + 4))) ∧ W.cell? ⟨gb, 5, none⟩ = some (.int .i64 (f (16 + k * 6 + 5))) from fun W h => ⟨(Below.cell (p := ⟨gb, 0, none⟩) h hgl).trans k0, (Below.cell (p := ⟨gb, 1, none⟩) h hgl).trans k1, (Below.cell (p := ⟨gb, 2, none⟩) h hgl).trans k2, (Below.cell (p := ⟨gb, 3, none⟩) h hgl).trans k3, (Below.cell (p := ⟨gb, 4, none⟩) h hgl).trans k4, (Below.cell (p := ⟨gb, 5, none⟩) h hgl).trans k5⟩)
          have d0 := Bw.drew0 Wb
          have HRN := Lib.hid (show ∀ W, Row .i64 (W.alloc (.cells #[.int .i64 z, .int .i64 (f (16 + k * 6 + 1)), .int .i64 (f (16 + k * 6 + 2)), .int .i64 (f (16 + k * 6 + 3)), .int .i64 (f (16 + k * 6 + 4)), .int .i64 (f (16 + k * 6 + 5))] 2)) (some ⟨W.heap.size, 0, none⟩) 6 (sNum f (16 + k * 6)) from fun W => row_new W _ 6 rfl _ (by rw [← hsn]; rfl))
          have HOW := Lib.hid (show ∀ W, Bw Wb W → On W 40 2 (.slice sa fs.length sc) fs.length (flat fcs fs) from fun W h => On.below HM.out.out (Below.trans HBW.out (Below.mono h HBW.out.size)) (On.lt HM.out.out))
          have HGR := Lib.hid (show ∀ W W', Bw Wb W → W.grownBy W' (Value.slice sa fs.length sc).ownBlock → W'.cell? ⟨gb, 0, none⟩ = some (.bool B) ∧ W'.cell? ⟨gb, 1, none⟩ = some (.int .i64 (f (16 + k * 6 + 1))) ∧ W'.cell? ⟨gb, 2, none⟩ = some (.int .i64 (f (16 + k * 6 + 2))) ∧ W'.cell? ⟨gb, 3, none⟩ = some (.int .i64 (f (16 + k * 6 + 3))) ∧ W'.cell? ⟨gb, 4, none⟩ = some (.int .i64 (f (16 + k * 6 + 4))) ∧ W'.cell? ⟨gb, 5, none⟩ = some (.int .i64 (f (16 + k * 6 + 5))) from fun W W' h hg => by
            have hne : some gb ≠ (Value.slice sa fs.length sc).ownBlock := fun e => by
              have := On.lt HM.out.out gb e.symm
              rw [HGB.out] at this
              omega
            have hk : W'.heap[gb]? = W.heap[gb]? := hg.block gb (Nat.lt_of_lt_of_le hgl (Below.size h)) hne
            obtain ⟨e0, e1, e2, e3, e4, e5⟩ := HSC.out W h
            exact ⟨(World.cell?_of_block (a := ⟨gb, 0, none⟩) hk).trans e0, (World.cell?_of_block (a := ⟨gb, 1, none⟩) hk).trans e1, (World.cell?_of_block (a := ⟨gb, 2, none⟩) hk).trans e2, (World.cell?_of_block (a := ⟨gb, 3, none⟩) hk).trans e3, (World.cell?_of_block (a := ⟨gb, 4, none⟩) hk).trans e4, (World.cell?_of_block (a := ⟨gb, 5, none⟩) hk).trans e5⟩)
          have HFIN := Lib.hid (show ∀ w5 w6 v6, Bw Wb w5 → On w6 40 2 v6 (fs.length + 6) (flat fcs fs ++ flat fcs (namedF (shotH k) shotNm (sNum f (16 + k * 6)) 6)) → w5.grownBy w6 (Value.slice sa fs.length sc).ownBlock → (v6.ownBlock = (Value.slice sa fs.length sc).ownBlock ∨ v6.ownBlock = some w5.heap.size) → MkF W1 v6 (fldS f (k + 1)) w6 from fun w5 w6 v6 d h1 h2 h3 => by
            rw [HE.out]
            refine HM.out.app (Below.trans HBW.out (Below.mono d HBW.out.size)) ?_ h2 h3
            rw [namedF_len]
            exact h1)
          have h7a : fs.length + 6 ≤ maxLen := by have := HL.out; simp only [maxLen]; omega
          have h7b : (fs.length + 6) * 24 ≤ 140737488355328 := by have := HL.out; omega
          clear hsn
          go_region_held3 (fun w' => w'.cell? ⟨gb, 0, none⟩ = some (.bool B) ∧ w'.cell? ⟨gb, 1, none⟩ = some (.int .i64 (f (16 + k * 6 + 1))) ∧ w'.cell? ⟨gb, 2, none⟩ = some (.int .i64 (f (16 + k * 6 + 2))) ∧ w'.cell? ⟨gb, 3, none⟩ = some (.int .i64 (f (16 + k * 6 + 3))) ∧ w'.cell? ⟨gb, 4, none⟩ = some (.int .i64 (f (16 + k * 6 + 4))) ∧ w'.cell? ⟨gb, 5, none⟩ = some (.int .i64 (f (16 + k * 6 + 5)))) (first | exact ⟨k0, k1, k2, k3, k4, k5⟩ | exact HSC.out _ d0 | exact HSC.out _ (d0.al _) | exact HSC.out _ d2 | exact HSC.out _ (d2.al _) | exact HSC.out _ ((d2.al _).al _) | exact HSC.out _ d5 | exact d6)
            (first
              | (go_at_call 56; refine (HN.out _).mono ?_; rintro e w2 ⟨rfl, b2⟩; have d2 : Bw Wb w2 := (by first | exact d0.go b2 | exact (d0.al _).go b2 | fail))
              | (go_at_call 58; refine (snames_any _).mono ?_; rintro e w3 ⟨rfl, rfl⟩)
              | (go_at_call 59; refine (HF.out _).mono ?_; rintro e w4 ⟨rfl, rfl⟩)
              | (go_at_call 55; refine (HNA.out _ _ _ ?hs ?hr).mono ?_
                 case hs => first | exact (srow_new w2 _).below (Bw.one _ _) | fail
                 case hr => first | (have := HRN.out (w2.alloc (.cells (shotNm.map Value.string).toArray 9)); simpa using this) | fail
                 rintro e w5 ⟨a5, c5, rfl, m5⟩
                 have d5 : Bw Wb w5 := (by first | exact ((d2.al _).al _).go m5.below | fail)
                 have o5 := HOW.out w5 d5
                 have r5 := On.src m5.out
                 have n5 := flat_len fcs_len (namedF (shotH k) shotNm (sNum f (16 + k * 6)) 6))
              | (refine step_append_on _ (by rfl) (.tmp 54) (.tmp 74) _ (by rfl) 40 i0 _ 2 24 Try.underlying33 hi hz0 hz1 hz2 (by rfl) (by omega) (.slice sa fs.length sc) fs.length (flat fcs fs) (by rfl) (by exact o5) a5 6 c5 (flat fcs (namedF (shotH k) shotNm (sNum f (16 + k * 6)) 6)) (by rfl) (by exact n5) (by exact r5) (one_flat fcs_one _) h7a h7b ?_
                 intro v6 w6 on6 g6 h6
                 have d6 := HGR.out w5 w6 d5 g6
                 have m6 := HFIN.out w5 w6 v6 d5 on6 g6 h6)
              | fail)
          all_goals
            go_wp2_with fail
            go_roundw
            case rel => exact ⟨k + 1, by omega, by go_num, m6⟩
            case measure => simp [intOf]; omega
        · obtain rfl : k = 8 := by omega
          rw [show ((8 : Nat) : Int) = 8 from rfl]
          clear hlt hk' I28
          have M3 : MkF W1 (.slice sa (fldS f 8).length sc) (fldC f 0) ws := hm
          rw [fldS_len] at M3 ⊢
          clear hm
          obtain ⟨L29, hL29⟩ : ∃ L, L = ((stA f).extract 64 66).toList := ⟨_, rfl⟩
          have hr29 : ws.rangeAt w.heap.size 64 L29 := by rw [hL29]; exact World.rangeAt_of_block (M3.sb HS.out) 64 2
          have hn29 : L29.length = 2 := by rw [hL29]; simp [stA]
          have I29 := Lib.hid (show ∀ i : Nat, i < 2 → ∀ W : World, (Instr.index 29 (.agg L29.toArray) (.int .i64 i)).run Try.prog W = .ok (.int .i64 (f (64 + i))) W from fun i hi W => by rw [hL29]; exact idx29 f i hi W)
          clear hL29
          have hi29 : (Try.prog.info? 29).map (·.size) = some L29.length := by rw [hn29]; exact info29
          go_upto_region 12 with fail
          go_wp2_with (refine wpList_load_mid (by rfl) 29 _ (by rfl) w.heap.size 64 (by rfl) L29 _ hr29 Try.underlying29 (by rfl) hi29 ?_)
          clear hr29 hi29 hn29
          go_loopw [3, 79] (fun v iv wr => ∃ i : Nat, i ≤ 2 ∧ iv = .int .i64 i ∧ MkF W1 v (fldC f i) wr) (fun _ iv _ => 2 - (intOf iv).toNat)
          case atStart => exact ⟨0, by omega, rfl, M3⟩
          case round =>
            clear M3
            obtain ⟨i, hi', rfl, hm⟩ := hrel
            obtain ⟨ta, tc, rfl⟩ := hm.slice
            obtain ⟨wt, rfl⟩ : ∃ wt : World, wt = wr := ⟨_, rfl⟩
            by_cases hlt : i < 2
            · have i1 : (0 : Int) ≤ (i : Int) := by omega
              have i2 : (i : Int) < 2 := by omega
              have hx := I29.out i hlt
              have HE := Lib.hid (show fldC f (i + 1) = fldC f i ++ [(scoreW ++ numS (i : Int), f (64 + i))] from rfl)
              have hlen := fldC_len f i
              have HM := Lib.hid hm
              clear hm
              generalize fldC f i = fs at *
              generalize f (64 + i) = z at *
              have q1 : fs.length + 1 ≤ maxLen := by simp only [maxLen]; omega
              have q2 : (fs.length + 1) * 24 ≤ 140737488355328 := by omega
              clear hlen
              have hns := numS_size (n := (i : Int)) (by omega) (by omega)
              have g1 : ¬ 9223372036854775807 < 6 + (numS (i : Int)).size := by omega
              have p := Lib.hid (num_any wt (i : Int) (by omega) (by omega))
              go_wp2_with fail
              refine p.out.mono ?_
              rintro e w2 ⟨rfl, b2⟩
              have X := Lib.hid (On.alloc (On.below HM.out.out b2 (On.lt HM.out.out)) (.cells (fcs (scoreW ++ numS (i : Int), z)).toArray 40))
              have hb1 := Lib.hid (Bw.al b2 (.cells (fcs (scoreW ++ numS (i : Int), z)).toArray 40))
              have hlf : (flat fcs [(scoreW ++ numS (i : Int), z)]).length = 1 * 2 := by simp [flat, fcs]
              have hsr : Src (w2.alloc (.cells (fcs (scoreW ++ numS (i : Int), z)).toArray 40)) (some ⟨w2.heap.size, 0, none⟩) 1 (flat fcs [(scoreW ++ numS (i : Int), z)]) := by
                have := src_new w2 40 1 (fcs (scoreW ++ numS (i : Int), z))
                simpa [flat] using this
              go_wp2_with (at_builtin; refine wpList_append_on _ (by rfl) _ _ 33 (by rfl) 40 i0 _ 2 24 Try.underlying33 hi hz0 hz1 hz2 (by rfl) (by omega) (.slice ta fs.length tc) fs.length (flat fcs fs) (by rfl) X.out (some ⟨w2.heap.size, 0, none⟩) 1 1 (flat fcs [(scoreW ++ numS (i : Int), z)]) (by rfl) hlf hsr (one_flat fcs_one _) q1 q2 ?_; intro v' w' hon hg hv')
              go_roundw
              case rel => exact ⟨i + 1, by omega, by go_num, by rw [HE.out]; exact HM.out.app hb1.out hon hg hv'⟩
              case measure => simp [intOf]; omega
            · obtain rfl : i = 2 := by omega
              rw [show ((2 : Nat) : Int) = 2 from rfl]
              have HM := Lib.hid hm
              clear hm
              go_wp2_with fail
              go_ret
              exact ⟨_, rfl, ⟨HM.out.out, Below.trans HB.out (Below.mono HM.out.below HB.out.size), fun g hg => Nat.le_trans HB.out.size (HM.out.own g hg)⟩⟩
end Go.Proofs.Ytlhoffhagfhbcaa.Dif
