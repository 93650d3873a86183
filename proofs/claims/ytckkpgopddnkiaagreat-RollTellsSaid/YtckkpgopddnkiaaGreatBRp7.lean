/-
  Texts joined: Gbytes, Gsum, Rput. No condition.
-/
import Derived.Test.YtckkpgopddnkiaaGreatBRp6
namespace Go.Proofs.YtckkpgopddnkiaaGreat.Gm
open Go.RowKit Go.Sort Go.Proofs.YtckkpgopddnkiaaGreat.Num Go.Proofs.YtckkpgopddnkiaaGreat.Byt
set_option linter.all false

def runB (f : F) (o : Nat) : Nat → List Int
  | 0 => []
  | k + 1 => runB f o k ++ be8 (f (o + k))
def bodiesB (f : F) : Nat → List Int
  | 0 => be8 (f 0) ++ be4 (f 1)
  | i + 1 => bodiesB f i ++ runB f (2 + i * 7) 7
def onI (z : Int) : Int := if onB z then 1 else 0
def shotsB (f : F) : Nat → List Int
  | 0 => bodiesB f 2
  | k + 1 => shotsB f k ++ [onI (f (16 + k * 6))] ++ runB f (16 + k * 6 + 1) 5
def stB (f : F) : List Int := shotsB f 8 ++ be8 (f 64) ++ be8 (f 65)
theorem be8_len (z : Int) : (be8 z).length = 8 := rfl
theorem runB_len (f : F) (o : Nat) : ∀ k, (runB f o k).length = 8 * k
  | 0 => rfl
  | k + 1 => by rw [runB, List.length_append, runB_len f o k, be8_len]; omega
theorem bodiesB_len (f : F) : ∀ i, (bodiesB f i).length = 12 + 56 * i
  | 0 => rfl
  | i + 1 => by rw [bodiesB, List.length_append, bodiesB_len f i, runB_len]; omega
theorem shotsB_len (f : F) : ∀ k, (shotsB f k).length = 124 + 41 * k
  | 0 => by rw [shotsB, bodiesB_len]
  | k + 1 => by rw [shotsB, List.length_append, List.length_append, shotsB_len f k, runB_len]; simp; omega
theorem stB_len (f : F) : (stB f).length = 468 := by
  unfold stB
  rw [List.length_append, List.length_append, shotsB_len, be8_len, be8_len]

/-- Bytes so far: what lay below the base lies as it was. -/
structure Run (B : Nat) (W1 wr : World) (v : Value) (xs : List Int) : Prop where
  out : Out wr v xs
  below : Below B W1 wr
  low : ∀ g, v.ownBlock = some g → B ≤ g
section
variable {B : Nat} {W1 wr w' : World} {v v' : Value} {xs xs' : List Int}
theorem Run.put (h : Run B W1 wr v xs) (hB : B ≤ W1.heap.size) (o : Out w' v' xs') (t : Touch (OwnB v) wr w') (g : ∀ g, v'.ownBlock = some g → v.ownBlock = some g ∨ wr.heap.size ≤ g) : Run B W1 w' v' xs' :=
  ⟨o, h.below.trans (t.below (Nat.le_trans hB h.below.size) (fun k hk => h.low k hk)), fun k hk => (g k hk).elim (h.low k) (fun e => Nat.le_trans (Nat.le_trans hB h.below.size) e)⟩
theorem Run.alloc (h : Run B W1 wr v xs) (hB : B ≤ W1.heap.size) (ob : Obj) : Run B W1 (wr.alloc ob) v xs :=
  ⟨On.alloc h.out ob, h.below.alloc (Nat.le_trans hB h.below.size) ob, h.low⟩
theorem Run.drewN (h : Run B W1 wr v xs) (n : Nat) : Run B W1 (wr.drewN n) v xs := ⟨h.out, below_drewN h.below n, h.low⟩
theorem Run.app {ys : List Int} (h : Run B W1 wr v xs) (hB : B ≤ W1.heap.size) (hon : On w' 5 1 v' (xs.length + ys.length) (ub xs ++ ub ys)) (hg : wr.grownBy w' v.ownBlock) (hv : v'.ownBlock = v.ownBlock ∨ v'.ownBlock = some wr.heap.size) : Run B W1 w' v' (xs ++ ys) := by
  refine h.put hB ?_ ((Touch.refl (OwnB v) wr).grown hg (fun k hk => .inl hk)) (fun g hgv => ?_)
  · unfold Out; rw [List.length_append, ub_app]; exact hon
  · rcases hv with e | e
    · exact .inl (by rw [← e]; exact hgv)
    · rw [e] at hgv; cases hgv; exact .inr (Nat.le_refl _)
theorem Run.sb {b : Nat} {t : TypeId} {f : F} (h : Run B W1 wr v xs) (hS : SB W1 b t f) (hb : b < B) : SB wr b t f := hS.below h.below hb
end

theorem idx27 (f : F) (i : Nat) (hi : i < 2) (W : World) : (Instr.index 41 (.agg ((stA f).extract 2 16).toList.toArray) (.int .i64 i)).run Tryz.prog W = .ok (.agg (bodL (bod f (2 + i * 7))).toArray) W := by
  have e : i = 0 ∨ i = 1 := by omega
  rcases e with rfl | rfl
  · show _ = _; kernel_rfl
  · show _ = _; kernel_rfl
theorem idx30 (f : F) (k : Nat) (hk : k < 8) (W : World) : (Instr.index 44 (.agg ((stA f).extract 16 64).toList.toArray) (.int .i64 k)).run Tryz.prog W = .ok (.agg (shoL (sho f (16 + k * 6))).toArray) W := by
  match k, hk with
  | 0, _ => show _ = _; kernel_rfl
  | 1, _ => show _ = _; kernel_rfl
  | 2, _ => show _ = _; kernel_rfl
  | 3, _ => show _ = _; kernel_rfl
  | 4, _ => show _ = _; kernel_rfl
  | 5, _ => show _ = _; kernel_rfl
  | 6, _ => show _ = _; kernel_rfl
  | 7, _ => show _ = _; kernel_rfl
def bArr (f : F) (o : Nat) : Array Value := #[.int .i64 (f o), .int .i64 (f (o + 1)), .int .i64 (f (o + 2)), .int .i64 (f (o + 3)), .int .i64 (f (o + 4)), .int .i64 (f (o + 5)), .int .i64 (f (o + 6))]
theorem bArr_get (f : F) (o : Nat) {k : Nat} (hk : k < 7) : (bArr f o)[k]? = some (.int .i64 (f (o + k))) := by
  match k, hk with
  | 0, _ => rfl
  | 1, _ => rfl
  | 2, _ => rfl
  | 3, _ => rfl
  | 4, _ => rfl
  | 5, _ => rfl
  | 6, _ => rfl
def sArr (f : F) (o : Nat) : Array Value := #[.int .i64 (f (o + 1)), .int .i64 (f (o + 2)), .int .i64 (f (o + 3)), .int .i64 (f (o + 4)), .int .i64 (f (o + 5))]
theorem sArr_get (f : F) (o : Nat) {k : Nat} (hk : k < 5) : (sArr f o)[k]? = some (.int .i64 (f (o + 1 + k))) := by
  match k, hk with
  | 0, _ => rfl
  | 1, _ => rfl
  | 2, _ => rfl
  | 3, _ => rfl
  | 4, _ => rfl
theorem info27 : (Tryz.prog.info? 41).map (·.size) = some 14 := by kernel_rfl
theorem info30 : (Tryz.prog.info? 44).map (·.size) = some 48 := by kernel_rfl
/-- Eight bytes more. -/
theorem put_more (W : World) (v : Value) (xs : List Int) (z : Int) (h : Out W v xs) (hl : xs.length ≤ 900000) : Calls Tryz.prog 94 #[v, .int .u64 (IntKind.u64.wrap z)] W (Puts W v (xs ++ be8 z)) := by
  rw [← be8_wrap z]
  exact put64_any W v xs _ h hl (by simp [IntKind.wrap, IntKind.bits, IntKind.signed]; omega) (by simp [IntKind.wrap, IntKind.bits, IntKind.signed]; omega)

set_option maxRecDepth 100000 in
set_option maxHeartbeats 8000000 in
theorem bytes_any (w : World) (f : F) (hw : Wf f) :
    Calls Tryz.prog 79 #[stV f] w fun e w' => ∃ v, e = .returned v ∧ Run w.heap.size w w' v (stB f) := by
  obtain ⟨W1, hW1⟩ : ∃ W1, W1 = w.alloc (.cells (stA f) 47) := ⟨_, rfl⟩
  have hS : SB W1 w.heap.size 47 f := by rw [hW1]; exact SB.new w _ f
  have hB : Below w.heap.size w W1 := by rw [hW1]; exact (Below.refl _ w).alloc (Nat.le_refl _) _
  have hz : w.heap.size + 1 ≤ W1.heap.size := by rw [hW1]; simp
  have c0 := hS.int (j := 0) (by omega) (by omega) (by omega)
  have c1 := hS.seed
  have HS := Lib.hid hS
  have HB := Lib.hid hB
  have HW := Lib.hid hw
  have hsd := hw.seed
  have p1 := Lib.hid (fun W => put_more W (.slice none 0 0) [] (f 0) (Out.nil _) (by simp))
  have p2 := Lib.hid (fun W v xs (h : Out W v xs) (hl : xs.length ≤ 1000000) => put32_any W v xs (f 1) h hl hsd.1 hsd.2)
  have hb0 : w.heap.size < W1.heap.size := by omega
  unfold stV
  clear hS hB hw hsd
  go_enter Tryz.func79, Tryz.ntmps79
  go_upto_region 1 with fail
  rw [← hW1]
  clear hW1
  go_region_held3 (fun w' => w'.cell? ⟨w.heap.size, 0, none⟩ = some (.int .i64 (f 0)) ∧ w'.cell? ⟨w.heap.size, 1, none⟩ = some (.int .u32 (f 1))) (first | go_keep | exact ⟨k0, k1⟩ | exact ⟨l0, l1⟩)
    (first
      | (go_at_call 94; refine (p1.out _).mono ?_; rintro e w2 ⟨v1, rfl, o1, t1, g1⟩; have k0 : w2.cell? ⟨w.heap.size, 0, none⟩ = some (.int .i64 (f 0)) := (t1.cell (p := ⟨w.heap.size, 0, none⟩) hb0 (by simp [OwnB, Value.ownBlock])).trans c0; have k1 : w2.cell? ⟨w.heap.size, 1, none⟩ = some (.int .u32 (f 1)) := (t1.cell (p := ⟨w.heap.size, 1, none⟩) hb0 (by simp [OwnB, Value.ownBlock])).trans c1)
      | (go_at_call 93; refine (p2.out _ v1 _ o1 (by simp [be8, be4])).mono ?_; rintro e w3 ⟨v2, rfl, o2, t2, g2⟩; have l0 : w3.cell? ⟨w.heap.size, 0, none⟩ = some (.int .i64 (f 0)) := (t2.cell (p := ⟨w.heap.size, 0, none⟩) (Nat.lt_of_lt_of_le hb0 t1.size) (fun hk => (g1 _ hk).elim (fun e => by simp [Value.ownBlock] at e) (fun e => by simp at e; omega))).trans k0; have l1 : w3.cell? ⟨w.heap.size, 1, none⟩ = some (.int .u32 (f 1)) := (t2.cell (p := ⟨w.heap.size, 1, none⟩) (Nat.lt_of_lt_of_le hb0 t1.size) (fun hk => (g1 _ hk).elim (fun e => by simp [Value.ownBlock] at e) (fun e => by simp at e; omega))).trans k1))
  have R0 : Run (w.heap.size + 1) W1 W1.drew (.slice none 0 0) [] := ⟨Out.nil _, (Below.refl _ _).drew, fun g hg => by simp [Value.ownBlock] at hg⟩
  have R2 : Run (w.heap.size + 1) W1 w3 v2 (bodiesB f 0) := ((R0.put hz o1 t1 g1).put hz o2 t2 g2)
  clear R0 o1 t1 g1 o2 t2 g2 k0 k1 l0 l1 c0 c1 p1 p2
  obtain ⟨L27, hL27⟩ : ∃ L, L = ((stA f).extract 2 16).toList := ⟨_, rfl⟩
  have hr27 : w3.rangeAt w.heap.size 2 L27 := by rw [hL27]; exact World.rangeAt_of_block (R2.sb HS.out (by omega)) 2 14
  have hn27 : L27.length = 14 := by rw [hL27]; simp [stA]
  have I27 := Lib.hid (show ∀ i : Nat, i < 2 → ∀ W : World, (Instr.index 41 (.agg L27.toArray) (.int .i64 i)).run Tryz.prog W = .ok (.agg (bodL (bod f (2 + i * 7))).toArray) W from fun i hi W => by rw [hL27]; exact idx27 f i hi W)
  clear hL27
  have hi27 : (Tryz.prog.info? 41).map (·.size) = some L27.length := by rw [hn27]; exact info27
  go_upto_region 2 with fail
  go_wp2_with (refine wpList_load_mid (by rfl) 41 _ (by rfl) w.heap.size 2 (by rfl) L27 _ hr27 Tryz.underlying41 (by rfl) hi27 ?_)
  clear hr27 hi27 hn27
  go_loopw [3, 22] (fun ov iv wr => ∃ i : Nat, i ≤ 2 ∧ iv = .int .i64 i ∧ Run (w.heap.size + 1) W1 wr ov (bodiesB f i)) (fun _ iv _ => 2 - (intOf iv).toNat)
  case atStart => exact ⟨0, by omega, rfl, R2⟩
  case round =>
    clear R2
    obtain ⟨i, hi, rfl, hR⟩ := hrel
    obtain ⟨wo, rfl⟩ : ∃ wo : World, wo = wr := ⟨_, rfl⟩
    by_cases hlt : i < 2
    · have i1 : (0 : Int) ≤ (i : Int) := by omega
      have i2 : (i : Int) < 2 := by omega
      have hx := I27.out i hlt
      unfold bodL at hx
      simp only [bod] at hx
      have HE := Lib.hid (show bodiesB f (i + 1) = bodiesB f i ++ runB f (2 + i * 7) 7 from rfl)
      have hlen := bodiesB_len f i
      have HLEN := Lib.hid (show (bodiesB f i).length ≤ 1000 by omega)
      have hR3 := (hR.alloc hz (.cells (bArr f (2 + i * 7)) 40)).alloc hz (.cells (bArr f (2 + i * 7)) 2)
      have hg3 : Blk ((wo.alloc (.cells (bArr f (2 + i * 7)) 40)).alloc (.cells (bArr f (2 + i * 7)) 2)) (wo.heap.size + 1) 2 (bArr f (2 + i * 7)) := by
        have := Blk.new (wo.alloc (.cells (bArr f (2 + i * 7)) 40)) 2 (bArr f (2 + i * 7))
        simpa using this
      obtain ⟨A7, hA7⟩ : ∃ A, A = bArr f (2 + i * 7) := ⟨_, rfl⟩
      have G7 := Lib.hid (show ∀ k, k < 7 → A7[k]? = some (.int .i64 (f (2 + i * 7 + k))) from fun k hk => by rw [hA7]; exact bArr_get f _ hk)
      generalize bodiesB f i = xs at *
      go_upto_region 6 with fail
      unfold bArr at hA7 hR3 hg3
      clear hx hR hlen
      generalize wo.heap.size + 1 = gs at *
      rw [← hA7] at hg3
      have hR4 : ∃ W4, W4 = (wo.alloc (.cells #[.int .i64 (f (2 + i * 7)), .int .i64 (f (2 + i * 7 + 1)), .int .i64 (f (2 + i * 7 + 2)), .int .i64 (f (2 + i * 7 + 3)), .int .i64 (f (2 + i * 7 + 4)), .int .i64 (f (2 + i * 7 + 5)), .int .i64 (f (2 + i * 7 + 6))] 40)).alloc (.cells #[.int .i64 (f (2 + i * 7)), .int .i64 (f (2 + i * 7 + 1)), .int .i64 (f (2 + i * 7 + 2)), .int .i64 (f (2 + i * 7 + 3)), .int .i64 (f (2 + i * 7 + 4)), .int .i64 (f (2 + i * 7 + 5)), .int .i64 (f (2 + i * 7 + 6))] 2) := ⟨_, rfl⟩
      obtain ⟨W4, hW4⟩ := hR4
      rw [← hA7] at hR3
      rw [hA7, ← hW4] at hR3 hg3
      rw [← hA7] at hg3
      rw [← hW4]
      clear hW4 hA7
      go_wp2_with fail
      go_loopw [3, 41] (fun ov kv wr => ∃ k : Nat, k ≤ 7 ∧ kv = .int .i64 k ∧ Run (w.heap.size + 1) W1 wr ov (xs ++ runB f (2 + i * 7) k) ∧ Blk wr gs 2 A7) (fun _ kv _ => 7 - (intOf kv).toNat)
      case atStart => exact ⟨0, by omega, rfl, by simpa [runB] using hR3, hg3⟩
      case round =>
        clear hR3 hg3
        obtain ⟨k, hk, rfl, hR, hg⟩ := hrel
        by_cases hlk : k < 7
        · have k1 : (0 : Int) ≤ (k : Int) := by omega
          have k2 : (k : Int) < 7 := by omega
          have ck := (hg.cell k).trans (G7.out k hlk)
          have hrl := runB_len f (2 + i * 7) k
          have p := Lib.hid (fun v (h : Out wr v (xs ++ runB f (2 + i * 7) k)) => put_more wr v _ (f (2 + i * 7 + k)) h (by have := HLEN.out; rw [List.length_append]; omega))
          have HR := Lib.hid hR
          have HG := Lib.hid hg
          have HK := Lib.hid (show xs ++ runB f (2 + i * 7) (k + 1) = xs ++ runB f (2 + i * 7) k ++ be8 (f (2 + i * 7 + k)) by rw [runB, List.append_assoc])
          clear hR hg hrl
          go_wp2_with fail
          refine (p.out _ HR.out.out).mono ?_
          rintro e W5 ⟨v5, rfl, o5, t5, g5⟩
          rw [← HK.out] at o5
          have hR5 := HR.out.put hz o5 t5 g5
          have hg5 := HG.out.touch t5 (On.blk_ne HR.out.out HG.out (by decide))
          clear o5 t5 g5 p
          go_wp2_with fail
          go_roundw
          case rel => exact ⟨k + 1, by omega, by go_num, hR5, hg5⟩
          case measure => simp [intOf]; omega
        · obtain rfl : k = 7 := by omega
          rw [← HE.out] at hR
          go_wp2_with fail
          go_roundw
          case rel => exact ⟨i + 1, by omega, by go_num, hR⟩
          case measure => simp [intOf]; omega
    · obtain rfl : i = 2 := by omega
      rw [show ((2 : Nat) : Int) = 2 from rfl]
      have hR0 : Run (w.heap.size + 1) W1 wo _ (shotsB f 0) := hR
      obtain ⟨L30, hL30⟩ : ∃ L, L = ((stA f).extract 16 64).toList := ⟨_, rfl⟩
      have hr30 : wo.rangeAt w.heap.size 16 L30 := by rw [hL30]; exact World.rangeAt_of_block (hR0.sb HS.out (by omega)) 16 48
      have hn30 : L30.length = 48 := by rw [hL30]; simp [stA]
      have I30 := Lib.hid (show ∀ k : Nat, k < 8 → ∀ W : World, (Instr.index 44 (.agg L30.toArray) (.int .i64 k)).run Tryz.prog W = .ok (.agg (shoL (sho f (16 + k * 6))).toArray) W from fun k hk W => by rw [hL30]; exact idx30 f k hk W)
      have hi30 : (Tryz.prog.info? 44).map (·.size) = some L30.length := by rw [hn30]; exact info30
      clear hL30 hlt hi I27 hR
      go_upto_region 11 with fail
      go_wp2_with (refine wpList_load_mid (by rfl) 44 _ (by rfl) w.heap.size 16 (by rfl) L30 _ hr30 Tryz.underlying44 (by rfl) hi30 ?_)
      clear hr30 hi30 hn30
      go_loopw [3, 53] (fun ov iv wr => ∃ i : Nat, i ≤ 8 ∧ iv = .int .i64 i ∧ Run (w.heap.size + 1) W1 wr ov (shotsB f i)) (fun _ iv _ => 8 - (intOf iv).toNat)
      case atStart => exact ⟨0, by omega, rfl, hR0⟩
      case round =>
        clear hR0
        obtain ⟨i, hi, rfl, hR⟩ := hrel
        obtain ⟨wp, rfl⟩ : ∃ wp : World, wp = wr := ⟨_, rfl⟩
        by_cases hlt : i < 8
        · have i1 : (0 : Int) ≤ (i : Int) := by omega
          have i2 : (i : Int) < 8 := by omega
          have hx := I30.out i hlt
          unfold shoL at hx
          simp only [sho] at hx
          go_upto_region 17 with fail
          · have hOn : onB (f (16 + i * 6)) = true := by assumption
            have HE := Lib.hid (show shotsB f (i + 1) = shotsB f i ++ [1] ++ runB f (16 + i * 6 + 1) 5 by rw [shotsB, onI, hOn]; rfl)
            have hlen := shotsB_len f i
            have HLEN := Lib.hid (show (shotsB f i).length ≤ 1000 by omega)
            have hsh : Blk ((wp.alloc (.cells #[.bool true, .int .i64 (f (16 + i * 6 + 1)), .int .i64 (f (16 + i * 6 + 2)), .int .i64 (f (16 + i * 6 + 3)), .int .i64 (f (16 + i * 6 + 4)), .int .i64 (f (16 + i * 6 + 5))] 43)).alloc (.cells #[.int .u8 1] 5)) wp.heap.size 43 #[.bool true, .int .i64 (f (16 + i * 6 + 1)), .int .i64 (f (16 + i * 6 + 2)), .int .i64 (f (16 + i * 6 + 3)), .int .i64 (f (16 + i * 6 + 4)), .int .i64 (f (16 + i * 6 + 5))] := (Blk.new wp _ _).alloc _
            have hR3 := (hR.alloc hz (.cells #[.bool true, .int .i64 (f (16 + i * 6 + 1)), .int .i64 (f (16 + i * 6 + 2)), .int .i64 (f (16 + i * 6 + 3)), .int .i64 (f (16 + i * 6 + 4)), .int .i64 (f (16 + i * 6 + 5))] 43)).alloc hz (.cells #[.int .u8 1] 5)
            have SRC : Src ((wp.alloc (.cells #[.bool true, .int .i64 (f (16 + i * 6 + 1)), .int .i64 (f (16 + i * 6 + 2)), .int .i64 (f (16 + i * 6 + 3)), .int .i64 (f (16 + i * 6 + 4)), .int .i64 (f (16 + i * 6 + 5))] 43)).alloc (.cells #[.int .u8 1] 5)) (some ⟨wp.heap.size + 1, 0, none⟩) 1 (ub [1]) := by
              have := src_new (wp.alloc (.cells #[.bool true, .int .i64 (f (16 + i * 6 + 1)), .int .i64 (f (16 + i * 6 + 2)), .int .i64 (f (16 + i * 6 + 3)), .int .i64 (f (16 + i * 6 + 4)), .int .i64 (f (16 + i * 6 + 5))] 43)) 5 1 (ub [1])
              simpa [ub] using this
            obtain ⟨i0, hi0, hz0, hz1, hz2⟩ := info_parts info8
            have X := Lib.hid hR3.out
            generalize shotsB f i = xs at *
            clear hx hR hlen
            try rw [hOn]
            go_upto_region 18 with (at_builtin; refine wpList_append_on _ (by rfl) _ _ 82 (by rfl) 5 i0 _ 1 1 Tryz.underlying82 hi0 hz0 hz1 hz2 (by rfl) (by omega) _ _ _ (by rfl) X.out (some ⟨wp.heap.size + 1, 0, none⟩) 1 1 (ub [1]) (by rfl) (by rfl) SRC (ub_one _) (by have := HLEN.out; simp only [maxLen]; omega) (by have := HLEN.out; omega) ?_; intro v' w' hon hg hv')
            have hR4 := hR3.app hz (ys := [1]) hon hg hv'
            have hsh4 := hsh.grown hg (fun e => On.blk_ne X.out hsh (by decide) e.symm)
            have c0 := hsh4.cell 0
            have c1 := hsh4.cell 1
            have c2 := hsh4.cell 2
            have c3 := hsh4.cell 3
            have c4 := hsh4.cell 4
            have c5 := hsh4.cell 5
            have hR5 := hR4.alloc hz (.cells (sArr f (16 + i * 6)) 2)
            have hg5 := Blk.new w' 2 (sArr f (16 + i * 6))
            have G5 := Lib.hid (show ∀ k, k < 5 → (sArr f (16 + i * 6))[k]? = some (.int .i64 (f (16 + i * 6 + 1 + k))) from fun k hk => sArr_get f _ hk)
            clear hsh hsh4 hR3 SRC X hon hg hv' hR4 hz0 hz1 hz2 hi0 hOn
            go_upto_region 19 with fail
            clear c0 c1 c2 c3 c4 c5
            obtain ⟨W5, hW5⟩ : ∃ W5, W5 = w'.alloc (.cells (sArr f (16 + i * 6)) 2) := ⟨_, rfl⟩
            rw [← hW5] at hR5 hg5
            generalize hgs : w'.heap.size = gs at *
            obtain ⟨A5, hA5⟩ : ∃ A, A = sArr f (16 + i * 6) := ⟨_, rfl⟩
            rw [← hA5] at hg5 G5
            unfold sArr at hW5
            rw [← hW5]
            clear hW5 hgs hA5
            go_wp2_with fail
            go_loopw [3, 74] (fun ov kv wr => ∃ k : Nat, k ≤ 5 ∧ kv = .int .i64 k ∧ Run (w.heap.size + 1) W1 wr ov (xs ++ [1] ++ runB f (16 + i * 6 + 1) k) ∧ Blk wr gs 2 A5) (fun _ kv _ => 5 - (intOf kv).toNat)
            case atStart => exact ⟨0, by omega, rfl, by simpa [runB] using hR5, hg5⟩
            case round =>
              clear hR5 hg5
              obtain ⟨k, hk, rfl, hR, hg⟩ := hrel
              by_cases hlk : k < 5
              · have k1 : (0 : Int) ≤ (k : Int) := by omega
                have k2 : (k : Int) < 5 := by omega
                have ck := (hg.cell k).trans (G5.out k hlk)
                have hrl := runB_len f (16 + i * 6 + 1) k
                have p := Lib.hid (fun v (h : Out wr v (xs ++ [1] ++ runB f (16 + i * 6 + 1) k)) => put_more wr v _ (f (16 + i * 6 + 1 + k)) h (by have := HLEN.out; rw [List.length_append, List.length_append]; simp; omega))
                have HR := Lib.hid hR
                have HG := Lib.hid hg
                have HK := Lib.hid (show xs ++ [1] ++ runB f (16 + i * 6 + 1) (k + 1) = xs ++ [1] ++ runB f (16 + i * 6 + 1) k ++ be8 (f (16 + i * 6 + 1 + k)) by simp [runB, List.append_assoc])
                clear hR hg hrl
                go_wp2_with fail
                refine (p.out _ HR.out.out).mono ?_
                rintro e W6 ⟨v6, rfl, o6, t6, g6⟩
                rw [← HK.out] at o6
                have hR6 := HR.out.put hz o6 t6 g6
                have hg6 := HG.out.touch t6 (On.blk_ne HR.out.out HG.out (by decide))
                clear o6 t6 g6 p
                go_wp2_with fail
                go_roundw
                case rel => exact ⟨k + 1, by omega, by go_num, hR6, hg6⟩
                case measure => simp [intOf]; omega
              · obtain rfl : k = 5 := by omega
                rw [← HE.out] at hR
                go_wp2_with fail
                go_roundw
                case rel => exact ⟨i + 1, by omega, by go_num, hR⟩
                case measure => simp [intOf]; omega
          · have hOn : onB (f (16 + i * 6)) = false := by assumption
            have HE := Lib.hid (show shotsB f (i + 1) = shotsB f i ++ [0] ++ runB f (16 + i * 6 + 1) 5 by rw [shotsB, onI, hOn]; rfl)
            have hlen := shotsB_len f i
            have HLEN := Lib.hid (show (shotsB f i).length ≤ 1000 by omega)
            have hsh : Blk ((wp.alloc (.cells #[.bool false, .int .i64 (f (16 + i * 6 + 1)), .int .i64 (f (16 + i * 6 + 2)), .int .i64 (f (16 + i * 6 + 3)), .int .i64 (f (16 + i * 6 + 4)), .int .i64 (f (16 + i * 6 + 5))] 43)).alloc (.cells #[.int .u8 0] 5)) wp.heap.size 43 #[.bool false, .int .i64 (f (16 + i * 6 + 1)), .int .i64 (f (16 + i * 6 + 2)), .int .i64 (f (16 + i * 6 + 3)), .int .i64 (f (16 + i * 6 + 4)), .int .i64 (f (16 + i * 6 + 5))] := (Blk.new wp _ _).alloc _
            have hR3 := (hR.alloc hz (.cells #[.bool false, .int .i64 (f (16 + i * 6 + 1)), .int .i64 (f (16 + i * 6 + 2)), .int .i64 (f (16 + i * 6 + 3)), .int .i64 (f (16 + i * 6 + 4)), .int .i64 (f (16 + i * 6 + 5))] 43)).alloc hz (.cells #[.int .u8 0] 5)
            have SRC : Src ((wp.alloc (.cells #[.bool false, .int .i64 (f (16 + i * 6 + 1)), .int .i64 (f (16 + i * 6 + 2)), .int .i64 (f (16 + i * 6 + 3)), .int .i64 (f (16 + i * 6 + 4)), .int .i64 (f (16 + i * 6 + 5))] 43)).alloc (.cells #[.int .u8 0] 5)) (some ⟨wp.heap.size + 1, 0, none⟩) 1 (ub [0]) := by
              have := src_new (wp.alloc (.cells #[.bool false, .int .i64 (f (16 + i * 6 + 1)), .int .i64 (f (16 + i * 6 + 2)), .int .i64 (f (16 + i * 6 + 3)), .int .i64 (f (16 + i * 6 + 4)), .int .i64 (f (16 + i * 6 + 5))] 43)) 5 1 (ub [0])
              simpa [ub] using this
            obtain ⟨i0, hi0, hz0, hz1, hz2⟩ := info_parts info8
            have X := Lib.hid hR3.out
            generalize shotsB f i = xs at *
            clear hx hR hlen
            try rw [hOn]
            go_upto_region 18 with (at_builtin; refine wpList_append_on _ (by rfl) _ _ 82 (by rfl) 5 i0 _ 1 1 Tryz.underlying82 hi0 hz0 hz1 hz2 (by rfl) (by omega) _ _ _ (by rfl) X.out (some ⟨wp.heap.size + 1, 0, none⟩) 1 1 (ub [0]) (by rfl) (by rfl) SRC (ub_one _) (by have := HLEN.out; simp only [maxLen]; omega) (by have := HLEN.out; omega) ?_; intro v' w' hon hg hv')
            have hR4 := hR3.app hz (ys := [0]) hon hg hv'
            have hsh4 := hsh.grown hg (fun e => On.blk_ne X.out hsh (by decide) e.symm)
            have c0 := hsh4.cell 0
            have c1 := hsh4.cell 1
            have c2 := hsh4.cell 2
            have c3 := hsh4.cell 3
            have c4 := hsh4.cell 4
            have c5 := hsh4.cell 5
            have hR5 := hR4.alloc hz (.cells (sArr f (16 + i * 6)) 2)
            have hg5 := Blk.new w' 2 (sArr f (16 + i * 6))
            have G5 := Lib.hid (show ∀ k, k < 5 → (sArr f (16 + i * 6))[k]? = some (.int .i64 (f (16 + i * 6 + 1 + k))) from fun k hk => sArr_get f _ hk)
            clear hsh hsh4 hR3 SRC X hon hg hv' hR4 hz0 hz1 hz2 hi0 hOn
            go_upto_region 19 with fail
            clear c0 c1 c2 c3 c4 c5
            obtain ⟨W5, hW5⟩ : ∃ W5, W5 = w'.alloc (.cells (sArr f (16 + i * 6)) 2) := ⟨_, rfl⟩
            rw [← hW5] at hR5 hg5
            generalize hgs : w'.heap.size = gs at *
            obtain ⟨A5, hA5⟩ : ∃ A, A = sArr f (16 + i * 6) := ⟨_, rfl⟩
            rw [← hA5] at hg5 G5
            unfold sArr at hW5
            rw [← hW5]
            clear hW5 hgs hA5
            go_wp2_with fail
            go_loopw [3, 74] (fun ov kv wr => ∃ k : Nat, k ≤ 5 ∧ kv = .int .i64 k ∧ Run (w.heap.size + 1) W1 wr ov (xs ++ [0] ++ runB f (16 + i * 6 + 1) k) ∧ Blk wr gs 2 A5) (fun _ kv _ => 5 - (intOf kv).toNat)
            case atStart => exact ⟨0, by omega, rfl, by simpa [runB] using hR5, hg5⟩
            case round =>
              clear hR5 hg5
              obtain ⟨k, hk, rfl, hR, hg⟩ := hrel
              by_cases hlk : k < 5
              · have k1 : (0 : Int) ≤ (k : Int) := by omega
                have k2 : (k : Int) < 5 := by omega
                have ck := (hg.cell k).trans (G5.out k hlk)
                have hrl := runB_len f (16 + i * 6 + 1) k
                have p := Lib.hid (fun v (h : Out wr v (xs ++ [0] ++ runB f (16 + i * 6 + 1) k)) => put_more wr v _ (f (16 + i * 6 + 1 + k)) h (by have := HLEN.out; rw [List.length_append, List.length_append]; simp; omega))
                have HR := Lib.hid hR
                have HG := Lib.hid hg
                have HK := Lib.hid (show xs ++ [0] ++ runB f (16 + i * 6 + 1) (k + 1) = xs ++ [0] ++ runB f (16 + i * 6 + 1) k ++ be8 (f (16 + i * 6 + 1 + k)) by simp [runB, List.append_assoc])
                clear hR hg hrl
                go_wp2_with fail
                refine (p.out _ HR.out.out).mono ?_
                rintro e W6 ⟨v6, rfl, o6, t6, g6⟩
                rw [← HK.out] at o6
                have hR6 := HR.out.put hz o6 t6 g6
                have hg6 := HG.out.touch t6 (On.blk_ne HR.out.out HG.out (by decide))
                clear o6 t6 g6 p
                go_wp2_with fail
                go_roundw
                case rel => exact ⟨k + 1, by omega, by go_num, hR6, hg6⟩
                case measure => simp [intOf]; omega
              · obtain rfl : k = 5 := by omega
                rw [← HE.out] at hR
                go_wp2_with fail
                go_roundw
                case rel => exact ⟨i + 1, by omega, by go_num, hR⟩
                case measure => simp [intOf]; omega
        · obtain rfl : i = 8 := by omega
          have hSp := hR.sb HS.out (by omega)
          have hlen := shotsB_len f 8
          have m0 := hSp.score (i := 0) (by omega)
          have m1 := hSp.score (i := 1) (by omega)
          rw [Nat.add_zero] at m0
          rw [show 64 + 1 = 65 from rfl] at m1
          have hbp := hSp.lt
          have hlow := hR.low
          have HR := Lib.hid hR
          have p1 := Lib.hid (fun W v xs (h : Out W v xs) (hl : xs.length ≤ 900000) => put_more W v xs (f 64) h hl)
          have p2 := Lib.hid (fun W v xs (h : Out W v xs) (hl : xs.length ≤ 900000) => put_more W v xs (f 65) h hl)
          have hl1 : (shotsB f 8).length ≤ 800000 := by omega
          have HEND := Lib.hid (show stB f = shotsB f 8 ++ be8 (f 64) ++ be8 (f 65) from rfl)
          generalize shotsB f 8 = xs at *
          have oR := Lib.hid hR.out
          clear hR hSp hlen hlt hi I30
          go_upto_region 24 with fail
          go_region_held3 (fun w' => w'.cell? ⟨w.heap.size, 64, none⟩ = some (.int .i64 (f 64)) ∧ w'.cell? ⟨w.heap.size, 65, none⟩ = some (.int .i64 (f 65))) (first | go_keep | exact ⟨k0, k1⟩ | exact ⟨l0, l1⟩)
            (first
              | (go_at_call_of 94 (IntKind.u64.wrap (f 64)); refine (p1.out _ _ _ (by exact On.drew oR.out) (by omega)).mono ?_; rintro e w5 ⟨v5, rfl, o5, t5, g5⟩; have k0 : w5.cell? ⟨w.heap.size, 64, none⟩ = some (.int .i64 (f 64)) := (t5.cell (p := ⟨w.heap.size, 64, none⟩) hbp (fun hk => by have := hlow _ hk; simp at this; omega)).trans m0; have k1 : w5.cell? ⟨w.heap.size, 65, none⟩ = some (.int .i64 (f 65)) := (t5.cell (p := ⟨w.heap.size, 65, none⟩) hbp (fun hk => by have := hlow _ hk; simp at this; omega)).trans m1)
              | (go_at_call_of 94 (IntKind.u64.wrap (f 65)); refine (p2.out _ v5 _ o5 (by rw [List.length_append, be8_len]; omega)).mono ?_; rintro e w6 ⟨v6, rfl, o6, t6, g6⟩; have l0 : w6.cell? ⟨w.heap.size, 64, none⟩ = some (.int .i64 (f 64)) := (t6.cell (p := ⟨w.heap.size, 64, none⟩) (Nat.lt_of_lt_of_le hbp t5.size) (fun hk => (g5 _ hk).elim (fun e => by have := hlow _ e; simp at this; omega) (fun e => by simp at e; omega))).trans k0; have l1 : w6.cell? ⟨w.heap.size, 65, none⟩ = some (.int .i64 (f 65)) := (t6.cell (p := ⟨w.heap.size, 65, none⟩) (Nat.lt_of_lt_of_le hbp t5.size) (fun hk => (g5 _ hk).elim (fun e => by have := hlow _ e; simp at this; omega) (fun e => by simp at e; omega))).trans k1))
          have R5 := ((HR.out.drewN 1).put hz o5 t5 g5).put hz o6 t6 g6
          rw [← HEND.out] at R5
          clear k0 k1 l0 l1 m0 m1 o5 t5 g5 o6 t6 g6 p1 p2
          go_wp2_with fail
          go_ret
          exact ⟨_, rfl, R5.out, HB.out.trans (R5.below.mono (by omega)), fun g hg => by have := R5.low g hg; omega⟩
end Go.Proofs.YtckkpgopddnkiaaGreat.Gm
namespace Go.Proofs.YtckkpgopddnkiaaGreat.Gm
open Go.RowKit Go.Sort Go.Proofs.YtckkpgopddnkiaaGreat.Num Go.Proofs.YtckkpgopddnkiaaGreat.Byt
set_option linter.all false

def mixS (h b : Int) : Int := IntKind.u32.wrap (bits .xor .u32 h b * 16777619)
def sumL (l : List Int) : Int := l.foldl mixS 2166136261
theorem mixS_in (h b : Int) : 0 ≤ mixS h b ∧ mixS h b < 4294967296 := by simp [mixS, IntKind.wrap, IntKind.bits, IntKind.signed]; omega
theorem foldl_in : ∀ (l : List Int) (h : Int), 0 ≤ h → h < 4294967296 → 0 ≤ l.foldl mixS h ∧ l.foldl mixS h < 4294967296
  | [], h, h0, h1 => ⟨h0, h1⟩
  | b :: r, h, _, _ => foldl_in r _ (mixS_in h b).1 (mixS_in h b).2
theorem sumL_in (l : List Int) : 0 ≤ sumL l ∧ sumL l < 4294967296 := foldl_in l _ (by decide) (by decide)
theorem be8_in (z : Int) : ∀ b ∈ be8 z, 0 ≤ b ∧ b < 256 := by
  intro b hb
  simp [be8, be4] at hb
  omega
theorem be4_in (z : Int) : ∀ b ∈ be4 z, 0 ≤ b ∧ b < 256 := by
  intro b hb
  simp [be4] at hb
  omega
def ByteL (l : List Int) : Prop := ∀ b ∈ l, 0 ≤ b ∧ b < 256
theorem ByteL.app {l m : List Int} (h : ByteL l) (h' : ByteL m) : ByteL (l ++ m) := fun b hb => (List.mem_append.1 hb).elim (h b) (h' b)
theorem runB_in (f : F) (o : Nat) : ∀ k, ByteL (runB f o k)
  | 0 => fun b hb => by cases hb
  | k + 1 => (runB_in f o k).app (be8_in _)
theorem bodiesB_in (f : F) : ∀ i, ByteL (bodiesB f i)
  | 0 => ByteL.app (be8_in _) (be4_in _)
  | i + 1 => (bodiesB_in f i).app (runB_in f _ 7)
theorem shotsB_in (f : F) : ∀ k, ByteL (shotsB f k)
  | 0 => bodiesB_in f 2
  | k + 1 => ((shotsB_in f k).app (fun b hb => by simp [onI] at hb; subst hb; split <;> decide)).app (runB_in f _ 5)
theorem stB_in (f : F) : ByteL (stB f) := ((shotsB_in f 8).app (be8_in _)).app (be8_in _)
theorem sum_take {l : List Int} {i : Nat} (h : i < l.length) : (l.take (i + 1)).foldl mixS 2166136261 = mixS ((l.take i).foldl mixS 2166136261) (nth l i) := by
  have e : l.take (i + 1) = l.take i ++ [nth l i] := by
    rw [List.take_succ_eq_append_getElem h]
    simp [nth, List.getD_eq_getElem?_getD, List.getElem?_eq_getElem h]
  rw [e, List.foldl_append]
  rfl

set_option maxRecDepth 100000 in
set_option maxHeartbeats 4000000 in
theorem sum_any (w : World) (f : F) (hw : Wf f) :
    Calls Tryz.prog 66 #[stV f] w fun e w' => e = .returned (.int .u32 (sumL (stB f))) ∧ Below w.heap.size w w' := by
  obtain ⟨C, LC⟩ := let_of f
  obtain ⟨W1, hW1⟩ : ∃ W1, W1 = w.alloc (.cells C 47) := ⟨_, rfl⟩
  have hS : Blk W1 w.heap.size 47 C := by rw [hW1]; exact Blk.new _ _ _
  have hB : Below w.heap.size w W1 := by rw [hW1]; exact (Below.refl _ w).alloc (Nat.le_refl _) _
  have hif := LC.info
  have p := Lib.hid (bytes_any W1 f hw)
  unfold stV at p ⊢
  rw [← LC.eq] at p ⊢
  have hin := Lib.hid (stB_in f)
  have hlen := stB_len f
  obtain ⟨L, hL⟩ : ∃ L, stB f = L := ⟨_, rfl⟩
  rw [hL] at p hin hlen ⊢
  have HLEN := Lib.hid hlen
  have hl1 : L.length ≤ 1000 := by omega
  clear hw LC hL hlen
  go_enter Tryz.func66, Tryz.ntmps66
  go_upto_region 2 with fail
  rw [← hW1]
  clear hW1
  go_wp2_with (refine wpList_load_blk (by rfl) 47 _ (by rfl) w.heap.size (by rfl) _ C _ hS Tryz.underlying47 (by rfl) hif ?_)
  refine p.out.mono ?_
  rintro e w2 ⟨v, rfl, R⟩
  have hBB := hB.trans (R.below.mono hB.size)
  rcases On.form R.out with ⟨hv, hn, _⟩ | ⟨g, cap, rfl, hnc, hcm, how, hgl, hcell, hfr⟩
  · exact absurd hn (by have := HLEN.out; omega)
  · have HC := Lib.hid hcell
    clear p R hcell hfr how hS hB
    go_wp2_with fail
    go_loopw [3, 9] (fun hv iv wr => ∃ i : Nat, i ≤ L.length ∧ iv = .int .i64 i ∧ hv = .int .u32 ((L.take i).foldl mixS 2166136261) ∧ wr = w2) (fun _ iv _ => L.length - (intOf iv).toNat)
    case atStart => exact ⟨0, by omega, rfl, rfl, by first | trivial | rfl⟩
    case round =>
      obtain ⟨i, hi, rfl, rfl, rfl⟩ := hrel
      by_cases hlt : i < L.length
      · have i0 : (i : Int) < (L.length : Int) := by omega
        have i1 : (0 : Int) ≤ (i : Int) := by omega
        have HS := Lib.hid (sum_take hlt)
        have hnth : L[i]? = some (nth L i) := by simp [nth, List.getD_eq_getElem?_getD, List.getElem?_eq_getElem hlt]
        have hb := hin.out (nth L i) (List.mem_of_getElem? hnth)
        have ck := HC.out i (.int .u8 (nth L i)) (by unfold ub; rw [List.getElem?_map, hnth]; rfl)
        generalize (L.take i).foldl mixS 2166136261 = h at *
        generalize nth L i = b at *
        have hwb : IntKind.u32.wrap b = b := IntWalk.u32_in _ (by omega)
        clear hnth
        go_wp2_with fail
        go_roundw
        case rel => exact ⟨i + 1, by omega, by go_num, by rw [HS.out]; rfl, by first | trivial | rfl⟩
        case measure => simp [intOf]; omega
      · obtain rfl : i = L.length := by omega
        have HP := Lib.hid (show L.take L.length = L from List.take_length)
        go_wp2_with fail
        go_ret
        exact ⟨ret_int (by rw [HP.out]; rfl), hBB⟩
end Go.Proofs.YtckkpgopddnkiaaGreat.Gm
namespace Go.Proofs.YtckkpgopddnkiaaGreat.Gm
open Go.RowKit Go.Sort Go.Proofs.YtckkpgopddnkiaaGreat.Num Go.Proofs.YtckkpgopddnkiaaGreat.Byt
set_option linter.all false

def endB (u : Nat) : Nat → List Int
  | 0 => []
  | j + 1 => ((u / 256 ^ j % 256 : Nat) : Int) :: endB u j
theorem endB_len (u : Nat) : ∀ j, (endB u j).length = j
  | 0 => rfl
  | j + 1 => by simp [endB, endB_len u j]
theorem endB4 (u : Nat) : endB u 4 = be4 u := by
  simp only [endB, be4, List.cons.injEq]
  refine ⟨?_, ?_, ?_, ?_, trivial⟩ <;> omega
theorem endB8 (u : Nat) : endB u 8 = be8 u := by
  simp only [endB, be8, be4, List.cons_append, List.nil_append, List.cons.injEq]
  refine ⟨?_, ?_, ?_, ?_, ?_, ?_, ?_, ?_, trivial⟩ <;> omega
def partB (u n j : Nat) : List Value := List.replicate (n - j) (Value.int .u8 0) ++ ub (endB u j)
theorem partB_len (u n j : Nat) (h : j ≤ n) : (partB u n j).length = n := by simp [partB, ub, endB_len]; omega
theorem partB_set (u n j : Nat) (h : j < n) : (partB u n j).set (n - j - 1) (Value.int .u8 ((u / 256 ^ j % 256 : Nat) : Int)) = partB u n (j + 1) := by
  unfold partB
  obtain ⟨m, rfl⟩ : ∃ m, n = m + 1 + j := ⟨n - j - 1, by omega⟩
  rw [show m + 1 + j - j = m + 1 by omega, show m + 1 - 1 = m by omega, show m + 1 + j - (j + 1) = m by omega]
  rw [List.replicate_succ', List.append_assoc, List.set_append, if_neg (by simp), List.length_replicate, Nat.sub_self]
  rfl
/-- What a function that makes bytes of its own hands back. -/
def Made (w : World) (n : Nat) (l : List Int) (e : Ending) (w' : World) : Prop := ∃ v, e = .returned v ∧ On w' 5 1 v n (ub l) ∧ Below w.heap.size w w' ∧ (∀ g, v.ownBlock = some g → w.heap.size ≤ g)

set_option maxRecDepth 100000 in
set_option maxHeartbeats 4000000 in
theorem rbytes_any (w : World) (u n : Nat) (hu : u < 18446744073709551616) (hn : n = 8 ∨ n = 4) :
    Calls Tryz.prog 55 #[.int .u64 u, .int .i64 n] w (Made w n (endB u n)) := by
  have hmk : ∀ W : World, (Instr.makeSlice 82 (.int .i64 (n : Int)) (.int .i64 (n : Int))).run Tryz.prog W = .ok (.slice (some ⟨W.heap.size, 0, none⟩) n n) (W.alloc (.cells (partB u n 0).toArray 5)) := by
    intro W
    rcases hn with rfl | rfl
    · show _ = _; kernel_rfl
    · show _ = _; kernel_rfl
  have hn1 : n ≤ 8 := by omega
  have h0 : On (w.alloc (.cells (partB u n 0).toArray 5)) 5 1 (.slice (some ⟨w.heap.size, 0, none⟩) n n) n (partB u n 0) :=
    ⟨by rw [partB_len u n 0 (Nat.zero_le _)]; omega, .inr ⟨w.heap.size, n, _, rfl, heap_new w _, Nat.le_refl _, by simp only [maxLen]; omega, by simp [partB_len u n 0 (Nat.zero_le _)], by rw [Nat.mul_one]; show List.take n (partB u n 0) = _; exact List.take_of_length_le (by rw [partB_len u n 0 (Nat.zero_le _)]; exact Nat.le_refl _)⟩⟩
  have hB0 : Below w.heap.size w (w.alloc (.cells (partB u n 0).toArray 5)) := (Below.refl _ w).alloc (Nat.le_refl _) _
  have hw1 : IntKind.i64.wrap ((n : Int) - 1) = (n : Int) - 1 := IntWalk.i64_in _ (by omega)
  have hpos : 0 < n := by omega
  go_enter Tryz.func55, Tryz.ntmps55
  go_wp2_with fail
  generalize w.alloc (.cells (partB u n 0).toArray 5) = W1 at *
  clear hmk
  go_loopw [0, 6] (fun uv iv wr => ∃ j : Nat, j ≤ n ∧ iv = .int .i64 ((n : Int) - 1 - (j : Int)) ∧ uv = .int .u64 ((u / 256 ^ j : Nat) : Int) ∧ On wr 5 1 (.slice (some ⟨w.heap.size, 0, none⟩) n n) n (partB u n j) ∧ Below w.heap.size w wr) (fun _ iv _ => (intOf iv + 1).toNat)
  case atStart => exact ⟨0, by omega, by simp, by simp, h0, hB0⟩
  case round =>
    clear h0 hB0
    obtain ⟨j, hj, rfl, rfl, hO, hB⟩ := hrel
    by_cases hlt : j < n
    · obtain ⟨i, hi⟩ : ∃ i : Nat, (n : Int) - 1 - (j : Int) = (i : Int) := ⟨n - j - 1, by omega⟩
      have hi2 : i = n - j - 1 := by omega
      rw [hi]
      have i1 : (i : Int) < (n : Int) := by omega
      have i0 : (0 : Int) ≤ (i : Int) := by omega
      have hset := hO.store i (.int .u8 ((u / 256 ^ j % 256 : Nat) : Int))
      rw [hi2, partB_set u n j hlt, ← hi2] at hset
      have hdiv : u / 256 ^ j / 256 = u / 256 ^ (j + 1) := by rw [Nat.div_div_eq_div_mul, ← Nat.pow_succ]
      have HD := Lib.hid hdiv
      have hle : u / 256 ^ j ≤ u := Nat.div_le_self _ _
      have hB2 : Below w.heap.size w (wr.setCell ⟨w.heap.size, i, none⟩ (.int .u8 ((u / 256 ^ j % 256 : Nat) : Int))) := hB.setCell (Nat.le_refl _) _
      rcases hO.form with ⟨hv, _⟩ | ⟨g, cap, hv, hnc, hcm, how, hgl, hcell, hfr⟩
      · cases hv
      · cases hv
        have hlen := partB_len u n j hj
        have ci := hcell i ((partB u n j)[i]'(by omega)) (List.getElem?_eq_getElem (by omega))
        have fi := hfr i
        have HI := Lib.hid hi
        generalize (partB u n j)[i]'_ = old at ci
        have HS := Lib.hid hset
        have HB := Lib.hid hB2
        generalize u / 256 ^ j = x at *
        have hwx : IntKind.u8.wrap ((x : Int) % 256) = (x : Int) % 256 := IntWalk.u8_in _ (by omega)
        clear hi hi2 hset hdiv hB2 hO hB hcell hfr how hnc hcm hlen
        go_wp2_with fail
        go_roundw
        case rel => exact ⟨j + 1, by omega, by have := HI.out; (first | (congr 1; omega) | congr 1), by rw [← HD.out]; (try congr 1), by simpa using HS.out, by simpa using HB.out⟩
        case measure => have := HI.out; simp [intOf] <;> omega
    · obtain rfl : j = n := by omega
      rw [show (j : Int) - 1 - (j : Int) = -1 by omega]
      have HO := Lib.hid hO
      clear hO
      go_wp2_with fail
      go_ret
      refine ⟨_, rfl, ?_, hB, fun g hg => by cases hg; exact Nat.le_refl _⟩
      have := HO.out
      unfold partB at this
      rwa [Nat.sub_self] at this
theorem natAbs_u64 (z : Int) : ∃ u : Nat, IntKind.u64.wrap z = (u : Int) ∧ u < 18446744073709551616 := ⟨(IntKind.u64.wrap z).toNat, by simp [IntKind.wrap, IntKind.bits, IntKind.signed]; omega, by simp [IntKind.wrap, IntKind.bits, IntKind.signed]; omega⟩

set_option maxRecDepth 100000 in
set_option maxHeartbeats 2000000 in
theorem rput_any (w : World) (v : Value) (xs : List Int) (z : Int) (h : Out w v xs) (hl : xs.length ≤ 900000) :
    Calls Tryz.prog 54 #[v, .int .i64 z] w (Puts w v (xs ++ be8 z)) := by
  obtain ⟨u, hu, hu2⟩ := natAbs_u64 z
  have HE := Lib.hid (show be8 z = endB u 8 by rw [endB8, ← hu, be8_wrap])
  have p := Lib.hid (rbytes_any w u 8 hu2 (.inl rfl))
  have H := Lib.hid h
  have HL := Lib.hid hl
  clear h hl
  obtain ⟨i0, hi, hz0, hz1, hz2⟩ := info_parts info8
  go_enter Tryz.func54, Tryz.ntmps54
  go_wp2_with fail
  refine p.out.mono ?_
  rintro e w1 ⟨v1, rfl, o1, b1, g1⟩
  have hO := Lib.hid (On.below H.out b1 H.out.lt)
  obtain ⟨a1, c1, rfl, hc1, hm1⟩ := o1.slice
  have hsrc := o1.src
  have hel : (ub (endB u 8)).length = 8 * 1 := by rw [ub_len, endB_len]
  go_wp2_with (at_builtin; refine wpList_append_on _ (by rfl) _ _ 82 (by rfl) 5 i0 _ 1 1 Tryz.underlying82 hi hz0 hz1 hz2 (by rfl) (by omega) v xs.length (ub xs) (by rfl) hO.out a1 8 c1 (ub (endB u 8)) (by rfl) hel hsrc (ub_one _) (by have := HL.out; simp only [maxLen]; omega) (by have := HL.out; omega) ?_; intro v' w' hon hg hv')
  go_ret
  have hb1 := b1.size
  refine ⟨v', rfl, ?_, ?_, fun g hg' => ?_⟩
  · unfold Out
    rw [HE.out, List.length_append, endB_len, ub_app]
    exact hon
  · exact (Touch.of_below b1 : Touch (OwnB v) w w1).grown hg (fun k hk => .inl hk)
  · rcases hv' with e | e
    · exact .inl (by rw [← e]; exact hg')
    · rw [e] at hg'; cases hg'; exact .inr hb1
end Go.Proofs.YtckkpgopddnkiaaGreat.Gm
