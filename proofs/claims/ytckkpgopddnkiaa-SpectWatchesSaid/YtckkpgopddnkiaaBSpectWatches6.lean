/-
  Texts joined: Eql, Gnew, OpenI2, Gawake, Flat, Put. No condition.
-/
import Derived.Test.YtckkpgopddnkiaaBSpectWatches5
import Derived.DeepKeys
import Derived.DeepKeys2
import Derived.ChangeKeysEq
import Derived.Laws.StructEq
import Derived.ProofKit
import Derived.OpenShut
import Derived.Deep.Strs
import Derived.Deep.Slices
import Derived.Deep.Fields
import Derived.ChangeSame
import Derived.IntWalk
import Derived.Test.YtckkpgopddnkiaaProg
namespace Go.Proofs.Ytckkpgopddnkiaa.Eql
open Go.RowKit Go.WideShapes
set_option linter.all false

/-- Two cells of one kind, the second one as it may be. -/
def OneK (a b : Value) : Prop := (∃ x y, a = .bool x ∧ b = .bool y) ∨ (∃ k x y, a = .int k x ∧ b = .int k y ∧ (Lit.int k y).wf = true)
def SameK (cs cs' : List Value) : Prop := cs.length = cs'.length ∧ ∀ (i : Nat) (a b : Value), cs[i]? = some a → cs'[i]? = some b → OneK a b
theorem SameK.drop {cs cs' : List Value} (h : SameK cs cs') (n : Nat) : SameK (cs.drop n) (cs'.drop n) :=
  ⟨by simp [h.1], fun i a b ha hb => h.2 (n + i) a b (by rwa [List.getElem?_drop] at ha) (by rwa [List.getElem?_drop] at hb)⟩
theorem SameK.take {cs cs' : List Value} (h : SameK cs cs') (n : Nat) : SameK (cs.take n) (cs'.take n) :=
  ⟨by simp [h.1], fun i a b ha hb => by
    rw [List.getElem?_take] at ha hb
    split at ha
    · rename_i hi
      rw [if_pos hi] at hb
      exact h.2 i a b ha hb
    · cases ha⟩
theorem mapM_some {α : Type} {f g : α → Option (List Lit)} : ∀ (L : List α), (∀ x ∈ L, (f x).isSome = true → (g x).isSome = true) → (L.mapM f).isSome = true → (L.mapM g).isSome = true
  | [], _, _ => rfl
  | x :: r, h, hf => by
    rw [List.mapM_cons] at hf ⊢
    cases hx : f x with
    | none => simp [hx] at hf
    | some a =>
      cases hr : r.mapM f with
      | none => simp [hx, hr] at hf
      | some b =>
        obtain ⟨a', ha'⟩ := Option.isSome_iff_exists.1 (h x (by simp) (by rw [hx]; rfl))
        obtain ⟨b', hb'⟩ := Option.isSome_iff_exists.1 (mapM_some r (fun y hy => h y (by simp [hy])) (by rw [hr]; rfl))
        simp [ha', hb']
section
variable {P : Program}
theorem lits_same : ∀ (D : Nat) (t : TypeId) (cs cs' : List Value), SameK cs cs' → (P.keyLits D t cs).isSome = true → (P.keyLits D t cs').isSome = true
  | 0, _, _, _, _, h => by simp [Program.keyLits] at h
  | D + 1, t, cs, cs', hs, h => by
    cases hu : P.underlying t with
    | none => simp [Program.keyLits, hu] at h
    | some kd =>
      obtain ⟨l, hl⟩ := Option.isSome_iff_exists.1 h
      have one : ∀ v, cs = [v] → ∃ v', cs' = [v'] ∧ OneK v v' := by
        intro v e
        subst e
        have h1 := hs.1
        match cs', h1, hs with
        | [v'], _, hs => exact ⟨v', rfl, hs.2 0 v v' rfl rfl⟩
      cases kd with
      | bool =>
        obtain ⟨b, e, _⟩ := keyLits_bool' hu hl
        obtain ⟨v', e', h1⟩ := one _ e
        subst e'
        rcases h1 with ⟨x, y, _, rfl⟩ | ⟨k, x, y, e1, _⟩
        · simp [Program.keyLits, hu]
        · cases e1
      | int q =>
        obtain ⟨n, e, _⟩ := keyLits_int' hu hl
        obtain ⟨v', e', h1⟩ := one _ e
        subst e'
        rcases h1 with ⟨x, y, e1, _⟩ | ⟨k, x, y, e1, rfl, hw⟩
        · cases e1
        · cases e1
          simp [Program.keyLits, hu, hw]
      | string =>
        obtain ⟨s, e, _⟩ := keyLits_string' hu hl
        obtain ⟨v', e', h1⟩ := one _ e
        rcases h1 with ⟨x, y, e1, _⟩ | ⟨k, x, y, e1, _⟩ <;> cases e1
      | array n e =>
        simp only [Program.keyLits, hu] at h ⊢
        rw [hs.1] at h
        split at h
        · rename_i hc
          rw [if_pos hc]
          rw [Option.isSome_map] at h ⊢
          exact mapM_some _ (fun i _ => lits_same D e _ _ ((hs.drop _).take _)) h
        · simp at h
      | struct fs =>
        simp only [Program.keyLits, hu] at h ⊢
        rw [hs.1] at h
        split at h
        · rename_i hc
          rw [if_pos hc]
          rw [Option.isSome_map] at h ⊢
          exact mapM_some _ (fun f _ => lits_same D f.type _ _ ((hs.drop _).take _)) h
        · simp at h
      | _ => simp [Program.keyLits, hu] at h
/-- The comparison. -/
theorem eql_run (w : World) {m : Nat} (hm : m ≤ 10000) {t : TypeId} (hk : P.keyTypeAt m t = true) (ht : P.tiled m t = true)
    (hwide : (match P.underlying t with | some (.array _ _) | some (.struct _) => true | _ => false) = true)
    (z : List Value) {D : Nat} (hz : (P.keyLits D t z).isSome = true) (hzl : z.length = P.cellsOf t) {xs ys : Array Value} (hx : SameK z xs.toList) (hy : SameK z ys.toList) :
    ∃ r : Bool, (Op.equalIn 10000 t (.agg xs) (.agg ys)).run P w = .ok r w ∧ (r = true ↔ xs = ys) := by
  obtain ⟨lx, hlx⟩ := Option.isSome_iff_exists.1 (lits_same D t z xs.toList hx hz)
  obtain ⟨ly, hly⟩ := Option.isSome_iff_exists.1 (lits_same D t z ys.toList hy hz)
  have fx : ∀ cs : Array Value, SameK z cs.toList → (Value.agg cs).formed P t = true := by
    intro cs hc
    have hl := hc.1
    rw [hzl] at hl
    unfold Value.formed
    revert hwide
    cases P.underlying t with
    | none => intro h; cases h
    | some d => cases d <;> intro h <;> first | (cases h; done) | (simp; simpa using hl.symm)
  have := run_equalIn_deep (P := P) (10000 - m) m t hk w D D (.agg xs) (.agg ys) lx ly (fx xs hx) (fx ys hy) hlx hly
  rw [show 10000 - m + m = 10000 by omega] at this
  obtain ⟨r, hr, hiff⟩ := this
  refine ⟨r, hr, hiff.trans ⟨fun e => ?_, fun e => ?_⟩⟩
  · have cx := cells_of_lits m t ht D _ _ hlx
    have cy := cells_of_lits m t ht D _ _ hly
    rw [e, ← cy] at cx
    exact Array.ext' cx
  · subst e
    rw [hlx] at hly
    exact Option.some.inj hly
end
end Go.Proofs.Ytckkpgopddnkiaa.Eql
namespace Go.Proofs.Ytckkpgopddnkiaa.Gm
open Go.RowKit Go.Sort Go.Proofs.Ytckkpgopddnkiaa.Num
set_option linter.all false

/-- A block stored whole, as an equation that the walk rewrites by. -/
theorem store_run {P : Program} (w : World) (g : Nat) (t : TypeId) (old : Array Value) (cells : List Value) (hg : Blk w g t old) (hs : old.size = cells.length) (h1 : ∀ v ∈ cells, v.oneCell' = true) :
    ∃ w', (storeCells ⟨g, 0, none⟩ cells).run P w = .ok () w' ∧ Blk w' g t cells.toArray ∧ Touch (fun k => k = g) w w' := by
  have := run_storeCells_from (P := P) g t cells 0 old w hg (by omega) h1
  refine ⟨_, this, ?_, touch_setRow w g _⟩
  have e : (old.toList.take 0 ++ cells).toArray = cells.toArray := by simp
  rw [e]
  exact hg.setRow _
def bornF (seed : Int) : Nat → F
  | 0 => put zF 1 seed
  | i + 1 => setB (bornF seed i) (2 + i * 7) (bornB i)
theorem newF_eq (seed : Int) : newF seed = bornF seed 2 := rfl
/-- A state's cells as a letter: what the walk need know. -/
structure Let (C : Array Value) (f : F) : Prop where
  eq : C = stA f
  size : C.size = 66
  one : C.all (·.oneCell') = true
  info : (Try.prog.info? 53).map (·.size) = some C.size
theorem let_of (f : F) : ∃ C, Let C f := ⟨_, rfl, stA_size f, stA_one f, infoStf f⟩
theorem Let.blk {C : Array Value} {f : F} {w : World} {g : Nat} {t : TypeId} (h : Let C f) (hS : SB w g t f) : Blk w g t C := by rw [h.eq]; exact hS
theorem Let.sb {C : Array Value} {f : F} {w : World} {g : Nat} {t : TypeId} (h : Let C f) (hS : Blk w g t C) : SB w g t f := by rw [h.eq] at hS; exact hS

set_option maxRecDepth 100000 in
set_option maxHeartbeats 4000000 in
theorem new_any (w : World) (seed : Int) (h0 : 0 ≤ seed) (h1 : seed < 4294967296) :
    Calls Try.prog 45 #[.int .u32 seed] w fun e w' => e = .returned (stV (newF seed)) ∧ Below w.heap.size w w' := by
  obtain ⟨W1, hW1⟩ : ∃ W1, W1 = w.alloc (.cells Try.zeroCells53 53) := ⟨_, rfl⟩
  have hR : Blk W1 w.heap.size 53 Try.zeroCells53 := by rw [hW1]; exact Blk.new _ _ _
  have hB1 : Below w.heap.size w W1 := by rw [hW1]; exact (Below.refl _ w).alloc (Nat.le_refl _) _
  have hs1 : W1.heap.size = w.heap.size + 1 := by rw [hW1]; simp
  have hR2 := hR.alloc (.cells Try.zeroCells53 53)
  have hX2 : Blk (W1.alloc (.cells Try.zeroCells53 53)) W1.heap.size 53 Try.zeroCells53 := Blk.new _ _ _
  have hB2 : Below w.heap.size w (W1.alloc (.cells Try.zeroCells53 53)) := hB1.alloc (by omega) _
  obtain ⟨C, hC⟩ : ∃ C, C = Try.zeroCells53.setIfInBounds 1 (.int .u32 seed) := ⟨_, rfl⟩
  have LC : Let C (put zF 1 seed) := by
    have e : C = stA (put zF 1 seed) := by rw [hC, ← stA_zero]; exact stA_put zF (by omega) seed
    rw [e]
    exact ⟨rfl, stA_size _, stA_one _, infoStf _⟩
  have hz66 : Try.zeroCells53.size = 66 := by rw [← stA_zero]; exact stA_size _
  have hone := LC.one
  have hinf := LC.info
  have LC' := Lib.hid LC
  have HC := Lib.hid hC.symm
  have HINF := Lib.hid hinf
  clear hinf
  have HS1 := Lib.hid hs1
  clear hs1 LC hB1 hR hC
  go_enter Try.func45, Try.ntmps45
  go_upto_region 1 with fail
  rw [← hW1]
  clear hW1
  obtain ⟨W3, hrun, hX3, hT3⟩ := store_run (P := Try.prog) _ W1.heap.size _ _ (Try.zeroCells53.toList.set 1 (.int .u32 seed)) hX2 (by simp) (fun v hv => (Array.all_eq_true_iff_forall_mem.1 hone) v (by rw [← HC.out, ← Array.mem_toList_iff, Array.toList_setIfInBounds]; exact hv))
  have hX4 : Blk W3 W1.heap.size 53 C := by
    have e : (Try.zeroCells53.toList.set 1 (.int .u32 seed)).toArray = C := by rw [← HC.out]; apply Array.ext'; simp
    rw [← e]
    exact hX3
  have hR3 : Blk W3 w.heap.size 53 Try.zeroCells53 := hR2.touch hT3 (by have := HS1.out; omega)
  have hB3 : Below w.heap.size w W3 := hB2.trans (hT3.below hB2.size (fun k hk => by have := HS1.out; omega))
  clear hX3 hX2 hR2 hT3 hB2 hone
  go_upto_region 2 with fail
  rw [HS1.out] at *
  clear hrun
  have S0 : SB W3 (w.heap.size + 1) 53 (bornF seed 0) := LC'.out.sb hX4
  clear hX4
  go_wp2_with fail
  go_loopw [7] (fun iv wr => ∃ i : Nat, i ≤ 2 ∧ iv = .int .i64 i ∧ SB wr (w.heap.size + 1) 53 (bornF seed i) ∧ Blk wr w.heap.size 53 Try.zeroCells53 ∧ Below w.heap.size w wr) (fun iv _ => 2 - (intOf iv).toNat)
  case atStart => exact ⟨0, by omega, rfl, S0, hR3, hB3⟩
  case round =>
    clear S0 hR3 hB3
    obtain ⟨i, hi, rfl, hS, hR, hB⟩ := hrel
    by_cases hlt : i < 2
    · have i1 : (0 : Int) ≤ (i : Int) := by omega
      have i2 : (i : Int) < 2 := by omega
      have p := Lib.hid (born_any wr i hlt)
      have HE := Lib.hid (show bornF seed (i + 1) = setB (bornF seed i) (2 + i * 7) (bornB i) from rfl)
      have HL := Lib.hid hlt
      have HS := Lib.hid hS
      have HR := Lib.hid hR
      have HB := Lib.hid hB
      clear hS hR hB hlt
      go_wp2_with fail
      refine p.out.mono ?_
      rintro e w2 ⟨rfl, hb2⟩
      have hS2 := HS.out.below hb2 HS.out.lt
      have hR2 := HR.out.below hb2 HR.out.lt
      have hB2 := HB.out.trans (hb2.mono HB.out.size)
      have ht := hS2.there (o := 2 + i * 7) (n := 7) (by have := HL.out; omega)
      have hS3 := hS2.setBody HL.out (bornB i)
      have hT3 : Touch (fun k => k = w.heap.size + 1) w2 (w2.setCells (w.heap.size + 1) (2 + i * 7) (bodL (bornB i))) := touch_setCells (S := fun k => k = w.heap.size + 1) (Touch.refl _ _) _ (.inl rfl) _ _
      have hR3 := hR2.touch hT3 (by omega)
      have hB3 := hB2.trans (hT3.below hB2.size (fun k hk => by omega))
      rw [← HE.out] at hS3
      clear hS2 hR2 hB2 hT3 hb2 p
      go_upto_region 6 with (refine wpList_store_mid (by rfl) 46 _ _ (by rfl) (w.heap.size + 1) (2 + i * 7) (bodL (bornB i)).toArray (by rfl) (by rfl) ht infoB (bodL_one _) ?_)
      clear ht
      have hlt := HL.out
      go_wp2_with fail
      go_roundw
      case rel => exact ⟨i + 1, by omega, by go_num, hS3, hR3, hB3⟩
      case measure => simp [intOf]; omega
    · obtain rfl : i = 2 := by omega
      rw [← newF_eq] at hS
      obtain ⟨C9, LC9⟩ := let_of (newF seed)
      have hS9 := LC9.blk hS
      have hzs : Try.zeroCells53.size = C9.size := by rw [LC9.size, ← stA_zero]; exact stA_size _
      have hif := LC9.info
      have hone := LC9.one
      have HC9 := Lib.hid LC9.eq
      clear LC9 hS hlt
      go_upto_region 7 with fail
      go_wp2_with (first | (refine wpList_load_blk (by rfl) 53 _ (by rfl) (w.heap.size + 1) (by rfl) _ C9 _ hS9 Try.underlying53 (by rfl) hif ?_) | (refine wpList_store_blk (by rfl) 53 _ _ (by rfl) w.heap.size C9 (by rfl) (by rfl) _ _ hR hif hzs hone ?_; intro W6 hd6 ht6))
      refine bodyPost_ret (v := .agg C9) (results_blk Try.results45 _ _ w.heap.size _ _ _ (by rfl) hd6 Try.underlying53 (by rfl) hif) rfl ⟨by rw [HC9.out]; rfl, ?_⟩
      exact hB.trans (ht6.below hB.size (fun k hk => by omega))

/-! ### Play -/
def inA (ls : List (Nat × Nat)) (j : Nat) : Nat → Nat := fun i => if i = 0 then (ls.getD j (0, 0)).1 else (ls.getD j (0, 0)).2
/-- A list of both players' inputs that lies in memory. -/
def InRow (w : World) (a : Option Addr) (ls : List (Nat × Nat)) : Prop :=
  (∀ x ∈ ls, x.1 < 65536 ∧ x.2 < 65536) ∧ (0 < ls.length → ∃ b off, a = some ⟨b, off, none⟩ ∧ b < w.heap.size ∧ ∀ j, j < ls.length → w.cell? ⟨b, off + j * 2, none⟩ = some (.int .u16 (inA ls j 0)) ∧ w.cell? ⟨b, off + j * 2 + 1, none⟩ = some (.int .u16 (inA ls j 1)))
theorem InRow.below {w w' : World} {a : Option Addr} {ls : List (Nat × Nat)} (h : InRow w a ls) (hb : Below w.heap.size w w') : InRow w' a ls :=
  ⟨h.1, fun hp => by
    obtain ⟨b, off, e, hlt, hc⟩ := h.2 hp
    exact ⟨b, off, e, Nat.lt_of_lt_of_le hlt hb.size, fun j hj => ⟨(hb.cell (p := ⟨b, off + j * 2, none⟩) hlt).trans (hc j hj).1, (hb.cell (p := ⟨b, off + j * 2 + 1, none⟩) hlt).trans (hc j hj).2⟩⟩⟩
theorem inA_lt {ls : List (Nat × Nat)} (h : ∀ x ∈ ls, x.1 < 65536 ∧ x.2 < 65536) (j : Nat) : ∀ i, i < 2 → inA ls j i < 65536 := by
  intro i hi
  have hx : (ls.getD j (0, 0)).1 < 65536 ∧ (ls.getD j (0, 0)).2 < 65536 := by
    by_cases hj : j < ls.length
    · rw [List.getD_eq_getElem?_getD, List.getElem?_eq_getElem hj]
      exact h _ (List.getElem_mem hj)
    · rw [List.getD_eq_getElem?_getD, List.getElem?_eq_none (by omega)]
      exact ⟨by decide, by decide⟩
  unfold inA
  split
  · exact hx.1
  · exact hx.2
def playF (f : F) (ls : List (Nat × Nat)) : Nat → F
  | 0 => f
  | k + 1 => stepF (playF f ls k) (inA ls k)
theorem Inv.play {fr sc : Int} {f : F} (h : Inv fr sc f) (ls : List (Nat × Nat)) : ∀ k : Nat, Inv (fr + k) (sc + 8 * k) (playF f ls k)
  | 0 => by simpa [playF] using h
  | k + 1 => by
    have := (Inv.play h ls k).step (inA ls k)
    have e1 : fr + ((k + 1 : Nat) : Int) = fr + (k : Int) + 1 := by omega
    have e2 : sc + 8 * ((k + 1 : Nat) : Int) = sc + 8 * (k : Int) + 8 := by omega
    rw [e1, e2]
    exact this

set_option maxRecDepth 100000 in
set_option maxHeartbeats 4000000 in
theorem play_any (w : World) (f : F) (fr sc : Int) (a : Option Addr) (c : Nat) (ls : List (Nat × Nat)) (hr : InRow w a ls) (hI : Inv fr sc f) (hl : ls.length ≤ 281474976710656) (hsc : sc ≤ 281474976710656) (hfr : fr ≤ 281474976710656) (hfr0 : 0 ≤ fr) :
    Calls Try.prog 108 #[stV f, .slice a ls.length c] w fun e w' => e = .returned (stV (playF f ls ls.length)) ∧ Below w.heap.size w w' := by
  obtain ⟨W1, hW1⟩ : ∃ W1, W1 = (w.alloc (.cells (stA f) 53)).alloc (.cells Try.zeroCells53 53) := ⟨_, rfl⟩
  have hS : SB W1 w.heap.size 53 f := by rw [hW1]; exact (SB.new w _ f).alloc _
  have hR : Blk W1 (w.heap.size + 1) 53 Try.zeroCells53 := by
    rw [hW1]
    have := Blk.new (w.alloc (.cells (stA f) 53)) 53 Try.zeroCells53
    simpa using this
  have hB : Below w.heap.size w W1 := by rw [hW1]; exact ((Below.refl _ w).alloc (Nat.le_refl _) _).alloc (by simp) _
  have hz : w.heap.size + 2 ≤ W1.heap.size := by rw [hW1]; simp
  have HR := Lib.hid hr
  have HI := Lib.hid hI
  unfold stV
  clear hr hI
  go_enter Try.func108, Try.ntmps108
  go_upto_region 1 with fail
  rw [← hW1]
  clear hW1
  go_wp2_with fail
  go_loopw [9] (fun iv wr => ∃ k : Nat, k ≤ ls.length ∧ iv = .int .i64 k ∧ SB wr w.heap.size 53 (playF f ls k) ∧ Blk wr (w.heap.size + 1) 53 Try.zeroCells53 ∧ w.heap.size + 2 ≤ wr.heap.size ∧ Below w.heap.size w wr) (fun iv _ => ls.length - (intOf iv).toNat)
  case atStart => exact ⟨0, by omega, rfl, hS, hR, hz, hB⟩
  case round =>
    clear hS hR hB hz
    obtain ⟨k, hk, rfl, hS, hR, hz, hB⟩ := hrel
    by_cases hlt : k < ls.length
    · obtain ⟨gb, ob, rfl, hgb, hcb⟩ := (HR.out.below hB).2 (by omega)
      obtain ⟨c0, c1⟩ := hcb k hlt
      have i0 : (k : Int) < (ls.length : Int) := by omega
      have i1 : (0 : Int) ≤ (k : Int) := by omega
      have hInv := HI.out.play ls k
      have HE := Lib.hid (show playF f ls (k + 1) = stepF (playF f ls k) (inA ls k) from rfl)
      have pS := Lib.hid (fun W => step_any W (playF f ls k) _ _ (inA ls k) (inA_lt HR.out.1 k) hInv (by omega) (by omega) (by omega))
      unfold inV stV at pS
      obtain ⟨C, LC⟩ := let_of (playF f ls k)
      rw [← LC.eq] at pS
      obtain ⟨D, LD⟩ := let_of (stepF (playF f ls k) (inA ls k))
      rw [← LD.eq] at pS
      have hS1 := (LC.blk hS).alloc (.cells #[.int .u16 (inA ls k 0), .int .u16 (inA ls k 1)] 34)
      have hR1 := hR.alloc (.cells #[.int .u16 (inA ls k 0), .int .u16 (inA ls k 1)] 34)
      have hB1 : Below w.heap.size w (wr.alloc (.cells #[.int .u16 (inA ls k 0), .int .u16 (inA ls k 1)] 34)) := hB.alloc hB.size _
      have hb1 : Blk (wr.alloc (.cells #[.int .u16 (inA ls k 0), .int .u16 (inA ls k 1)] 34)) wr.heap.size 34 #[.int .u16 (inA ls k 0), .int .u16 (inA ls k 1)] := Blk.new _ _ _
      have hz1 : w.heap.size + 2 ≤ (wr.alloc (.cells #[.int .u16 (inA ls k 0), .int .u16 (inA ls k 1)] 34)).heap.size := by simp; omega
      have hif := LC.info
      have hCD : C.size = D.size := by rw [LC.size, LD.size]
      have honeD := LD.one
      have hifD := LD.info
      have HD := Lib.hid LD
      have HCD := Lib.hid hCD
      clear hcb hInv hS hR hB LC LD hCD hgb
      generalize inA ls k 0 = n0 at *
      generalize inA ls k 1 = n1 at *
      go_upto_region 4 with fail
      clear c0 c1
      generalize wr.heap.size = rb at *
      generalize wr.alloc (.cells #[.int .u16 n0, .int .u16 n1] 34) = W2 at *
      have d0 := hb1.cell 0
      have d1 := hb1.cell 1
      go_wp2_with (refine wpList_load_blk (by rfl) 53 _ (by rfl) w.heap.size (by rfl) _ C _ hS1 Try.underlying53 (by rfl) hif ?_)
      refine (pS.out _).mono ?_
      rintro e w3 ⟨rfl, hb3⟩
      have hS3 := hS1.below hb3 hS1.lt
      have hR3 := hR1.below hb3 hR1.lt
      have hB3 := hB1.trans (hb3.mono hB1.size)
      have hz3 := Nat.le_trans hz1 hb3.size
      clear hS1 hR1 hB1 hb1 hb3 d0 d1 hz1 pS hif
      go_upto_region 5 with (refine wpList_store_blk (by rfl) 53 _ _ (by rfl) w.heap.size D (by rfl) (by rfl) _ C hS3 hifD HCD.out honeD ?_; intro W4 hS4 hT4)
      have hS5 := HD.out.sb hS4
      rw [← HE.out] at hS5
      have hz4 := hT4.size
      have hR4 := hR3.touch hT4 (by omega)
      have hB4 := hB3.trans (hT4.below hB3.size (fun k hk => by omega))
      clear hS3 hR3 hB3 hT4 hS4 HD HCD honeD hifD
      go_wp2_with fail
      go_roundw
      case rel => exact ⟨k + 1, by omega, by go_num, hS5, hR4, by omega, hB4⟩
      case measure => simp [intOf]; omega
    · obtain rfl : k = ls.length := by omega
      obtain ⟨C9, LC9⟩ := let_of (playF f ls ls.length)
      have hS9 := LC9.blk hS
      have hzs : Try.zeroCells53.size = C9.size := by rw [LC9.size, ← stA_zero]; exact stA_size _
      have hif := LC9.info
      have hone := LC9.one
      have HC9 := Lib.hid LC9.eq
      clear LC9 hS hlt
      go_upto_region 6 with fail
      go_wp2_with (first | (refine wpList_load_blk (by rfl) 53 _ (by rfl) w.heap.size (by rfl) _ C9 _ hS9 Try.underlying53 (by rfl) hif ?_) | (refine wpList_store_blk (by rfl) 53 _ _ (by rfl) (w.heap.size + 1) C9 (by rfl) (by rfl) _ _ hR hif hzs hone ?_; intro W6 hd6 ht6))
      refine bodyPost_ret (v := .agg C9) (results_blk Try.results108 _ _ (w.heap.size + 1) _ _ _ (by rfl) hd6 Try.underlying53 (by rfl) hif) rfl ⟨by rw [HC9.out], ?_⟩
      exact hB.trans (ht6.below hB.size (fun k hk => by omega))
end Go.Proofs.Ytckkpgopddnkiaa.Gm
namespace Go.Proofs.Ytckkpgopddnkiaa.I2
open Go.RowKit Go.ChangeShapes Go.WideShapes Go.ChangeAt Go.Deep Go.Proofs.Ytckkpgopddnkiaa.Gm
set_option linter.all false

theorem list_of {α : Type} {P : Nat → α → Prop} : ∀ (n : Nat), (∀ i, i < n → ∃ x, P i x) → ∃ l : List α, l.length = n ∧ ∀ j x, l[j]? = some x → P j x
  | 0, _ => ⟨[], rfl, fun j x h => by simp at h⟩
  | n + 1, h => by
    obtain ⟨l, hl, hp⟩ := list_of n (fun i hi => h i (by omega))
    obtain ⟨x, hx⟩ := h n (by omega)
    refine ⟨l ++ [x], by simp [hl], fun j y hy => ?_⟩
    by_cases hj : j < n
    · rw [List.getElem?_append_left (by omega)] at hy; exact hp j y hy
    · rw [List.getElem?_append_right (by omega)] at hy
      have : j - l.length = 0 := by
        have := (List.getElem?_eq_some_iff.1 hy).1
        simp at this; omega
      rw [this] at hy
      have e : j = n := by omega
      subst e
      simpa using (by simpa using hy : x = y) ▸ hx
theorem bounds_u16 {n : Int} (h : (Lit.int .u16 n).wf = true) : 0 ≤ n ∧ n < 65536 := by
  simp [Lit.wf, IntKind.min, IntKind.max, IntKind.bits, IntKind.signed] at h
  omega
theorem bounds_u32 {n : Int} (h : (Lit.int .u32 n).wf = true) : 0 ≤ n ∧ n < 4294967296 := by
  simp [Lit.wf, IntKind.min, IntKind.max, IntKind.bits, IntKind.signed] at h
  omega
theorem inA_get {ls : List (Nat × Nat)} {j : Nat} {x : Nat × Nat} (h : ls[j]? = some x) : inA ls j 0 = x.1 ∧ inA ls j 1 = x.2 := by
  unfold inA
  rw [List.getD_eq_getElem?_getD, h]
  exact ⟨rfl, rfl⟩

theorem open_in2 {H : Type} {enc : TypeId × Value → H} {P : Program} {W : World} {base : Nat} {spare : Nat → Bool} {held : Bool} {t e e1 : TypeId} {r : Reach} {b0 : Nat} {v : Value} {d : DataW H} {p : List MemPlace}
    (ht : P.underlying t = some (.slice e)) (he : P.underlying e = some (.array 2 e1)) (he1 : P.underlying e1 = some (.int .u16)) (hc : P.cellsOf e = 2) (hc1 : P.cellsOf e1 = 1)
    (hv : Value.okWide P W r b0 t v) (h : DataW.Trod enc P W base spare held t v d p) :
    ∃ a cap, ∃ ls : List (Nat × Nat), v = .slice a ls.length cap ∧ InRow W a ls ∧ ls.length ≤ cap ∧ cap ≤ maxLen := by
  obtain ⟨a0, len0, cap0, rfl⟩ := okWide_slice ht hv
  obtain ⟨fuel, hf⟩ := h
  rcases open_slice ht hf with ⟨hcs, _⟩ | ⟨a, len, cap, m, n, D, Pl, hcs, hb, hl, hm, hmm, _, hi⟩
  · simp [Value.cells] at hcs
    obtain ⟨rfl, rfl, rfl⟩ := hcs
    exact ⟨none, 0, [], rfl, ⟨fun x hx => by simp at hx, fun h => by simp at h⟩, by simp, by simp [maxLen]⟩
  · simp [Value.cells] at hcs
    obtain ⟨rfl, rfl, rfl⟩ := hcs
    have hlm : len0 ≤ m := by rw [hmm]; split <;> omega
    have each : ∀ i, i < len0 → ∃ x : Nat × Nat, (W.cell? (a.add (i * 2 + 0)) = some (.int .u16 x.1) ∧ W.cell? (a.add (i * 2 + 1)) = some (.int .u16 x.2)) ∧ x.1 < 65536 ∧ x.2 < 65536 := by
      intro i hil
      obtain ⟨cs', hcc, ht'⟩ := hi i (by omega)
      rw [hc] at hcc
      obtain ⟨xs, m', _, _, hcl, hxl, hx⟩ := DataW.trod_array he ht'
      obtain ⟨_, hcl2, hat⟩ := World.cells?_some hcc
      have t0 := hx 0 (by omega)
      have t1 := hx 1 (by omega)
      rw [hc1] at t0 t1
      simp only [Nat.zero_mul, Nat.one_mul, List.drop_zero] at t0 t1
      have x0 : xs[0]? = some (xs[0]'(by omega)) := List.getElem?_eq_getElem (by omega)
      have x1 : xs[1]? = some (xs[1]'(by omega)) := List.getElem?_eq_getElem (by omega)
      obtain ⟨n0, e0, _, w0⟩ := DataW.trod_int he1 (t0.trans x0)
      obtain ⟨n1, e1, _, w1⟩ := DataW.trod_int he1 (t1.trans x1)
      have b0 := bounds_u16 w0
      have b1 := bounds_u16 w1
      have g0 := hat 0 (by omega)
      have g1 := hat 1 (by omega)
      have k0 : cs'[0]? = some (.int .u16 n0) := by
        have := congrArg (fun l => l[0]?) e0
        simpa [List.getElem?_take] using this
      have k1 : cs'[1]? = some (.int .u16 n1) := by
        have := congrArg (fun l => l[0]?) e1
        simpa [List.getElem?_take, List.getElem?_drop] using this
      obtain ⟨m0, rfl⟩ : ∃ m0 : Nat, n0 = m0 := ⟨n0.toNat, by omega⟩
      obtain ⟨m1, rfl⟩ : ∃ m1 : Nat, n1 = m1 := ⟨n1.toNat, by omega⟩
      refine ⟨(m0, m1), ⟨?_, ?_⟩, by omega, by omega⟩
      · rw [← Go.Deep.add_add, g0, k0]
      · rw [← Go.Deep.add_add, g1, k1]
    obtain ⟨ls, hol, hops⟩ := list_of len0 each
    subst hol
    refine ⟨some a, cap0, ls, rfl, ⟨fun x hx => ?_, fun hp => ?_⟩, hl, hm⟩
    · obtain ⟨i, hi⟩ := List.getElem?_of_mem hx
      exact (hops i x hi).2
    · obtain ⟨b, off, spot⟩ := a
      obtain ⟨x, hx⟩ : ∃ x, ls[0]? = some x := ⟨ls[0]'(by omega), by simp⟩
      have c0 := (hops 0 x hx).1.1
      have hspot : spot = none := by simpa [Addr.add] using World.cell?_spot c0
      subst hspot
      have hadd : ∀ j, (⟨b, off, none⟩ : Addr).add j = ⟨b, off + j, none⟩ := fun j => by unfold Addr.add; split <;> simp_all
      refine ⟨b, off, rfl, ?_, fun j hj => ?_⟩
      · have := World.block_lt_of_cell? W _ c0
        rw [hadd] at this
        exact this
      · have hg : ls[j]? = some (ls[j]'hj) := List.getElem?_eq_getElem hj
        have := (hops j _ hg).1
        simp only [hadd, ← Nat.add_assoc, Nat.add_zero] at this
        rw [(inA_get hg).1, (inA_get hg).2]
        exact this
end Go.Proofs.Ytckkpgopddnkiaa.I2
namespace Go.Proofs.Ytckkpgopddnkiaa.Gm
open Go.RowKit Go.Sort Go.Proofs.Ytckkpgopddnkiaa.Num Go.Proofs.Ytckkpgopddnkiaa.Eql
set_option linter.all false

/-- The numbers fit their cells. -/
structure Wf (f : F) : Prop where
  i64 : ∀ j, j < 66 → -9223372036854775808 ≤ f j ∧ f j ≤ 9223372036854775807
  seed : 0 ≤ f 1 ∧ f 1 < 4294967296
theorem Inv.wf {fr sc : Int} {f : F} (h : Inv fr sc f) (h0 : 0 ≤ fr) (h1 : fr ≤ 4611686018427387904) (h2 : sc ≤ 4611686018427387904) : Wf f := by
  refine ⟨fun j hj => ?_, h.seed0, h.seed1⟩
  have s0 := h.seed0
  have s1 := h.seed1
  have f0 := h.frame
  have p0 := h.p0
  have p1 := h.p1
  have q0 := h.q0
  have q1 := h.q1
  by_cases a : j = 0
  · subst a; omega
  by_cases b : j = 1
  · subst b; omega
  by_cases c : j < 16
  · obtain ⟨i, r, hi, hr, rfl⟩ : ∃ i r, i < 2 ∧ r < 7 ∧ j = 2 + i * 7 + r := ⟨(j - 2) / 7, (j - 2) % 7, by omega, by omega, by omega⟩
    have hb := h.b i hi
    have x0 := hb.x0; have x1 := hb.x1; have y0 := hb.y0; have y1 := hb.y1; have v0 := hb.vx0; have v1 := hb.vx1; have u0 := hb.vy0; have u1 := hb.vy1
    have l0 := hb.l0; have l1 := hb.l1; have c0 := hb.c0; have c1 := hb.c1; have fc := hb.fc
    simp only [bod] at x0 x1 y0 y1 v0 v1 u0 u1 l0 l1 c0 c1 fc
    match r, hr with
    | 0, _ => simp only [Nat.add_zero]; omega
    | 1, _ => omega
    | 2, _ => omega
    | 3, _ => omega
    | 4, _ => omega
    | 5, _ => omega
    | 6, _ => omega
  by_cases d : j < 64
  · obtain ⟨k, r, hk, hr, rfl⟩ : ∃ k r, k < 8 ∧ r < 6 ∧ j = 16 + k * 6 + r := ⟨(j - 16) / 6, (j - 16) % 6, by omega, by omega, by omega⟩
    rcases h.s k hk with e | e
    · have z : ∀ r, r < 6 → f (16 + k * 6 + r) = 0 := by
        intro r hr
        simp only [sho, zeroS, Shot.mk.injEq] at e
        obtain ⟨e0, e1, e2, e3, e4, e5⟩ := e
        match r, hr with
        | 0, _ => exact e0
        | 1, _ => exact e1
        | 2, _ => exact e2
        | 3, _ => exact e3
        | 4, _ => exact e4
        | 5, _ => exact e5
      rw [z r hr]; omega
    · have o := e.on; have x0 := e.x0; have x1 := e.x1; have y0 := e.y0; have y1 := e.y1; have v := e.vx; have w := e.ow; have r0 := e.f0; have r1 := e.f1
      simp only [sho] at o x0 x1 y0 y1 v w r0 r1
      match r, hr with
      | 0, _ => simp only [Nat.add_zero]; omega
      | 1, _ => omega
      | 2, _ => omega
      | 3, _ => omega
      | 4, _ => omega
      | 5, _ => omega
  · have : j = 64 ∨ j = 65 := by omega
    rcases this with rfl | rfl <;> omega
theorem sameK_st {f : F} (h : Wf f) : SameK (stA zF).toList (stA f).toList := by
  refine ⟨by simp [stA], fun i a b ha hb => ?_⟩
  have hi : i < 66 := by
    have := (List.getElem?_eq_some_iff.1 ha).1
    simpa [stA] using this
  rw [Array.getElem?_toList, stA_get _ hi] at ha hb
  cases ha; cases hb
  have r := h.i64 i hi
  have s := h.seed
  by_cases e1 : i = 1
  · subst e1
    rw [cv_seed, cv_seed]
    exact .inr ⟨_, _, _, rfl, rfl, by simp [Lit.wf, IntKind.min, IntKind.max, IntKind.bits, IntKind.signed] <;> omega⟩
  · by_cases e2 : 16 ≤ i ∧ i < 64 ∧ (i - 16) % 6 = 0
    · exact .inl ⟨onB (zF i), onB (f i), by unfold cv; rw [if_neg e1, if_pos e2], by unfold cv; rw [if_neg e1, if_pos e2]⟩
    · rw [cv_int _ e1 e2, cv_int _ e1 e2]
      exact .inr ⟨_, _, _, rfl, rfl, by simp [Lit.wf, IntKind.min, IntKind.max, IntKind.bits, IntKind.signed] <;> omega⟩
theorem key33 : Try.prog.keyTypeAt 6 53 = true := by kernel_rfl
theorem tiled33 : Try.prog.tiled 6 53 = true := by kernel_rfl
theorem lits33 : (Try.prog.keyLits 6 53 (stA zF).toList).isSome = true := by kernel_rfl
theorem cells33 : (stA zF).toList.length = Try.prog.cellsOf 53 := by kernel_rfl
theorem guard33 : Try.prog.eqGuardType Try.prog.depth 53 = false := by kernel_rfl
theorem st_eql (w : World) {f g : F} (hf : Wf f) (hg : Wf g) : ∃ r : Bool, (Op.equalIn 10000 53 (.agg (stA f)) (.agg (stA g))).run Try.prog w = .ok r w ∧ (r = true ↔ stA f = stA g) :=
  eql_run (P := Try.prog) w (m := 6) (by decide) key33 tiled33 (by kernel_rfl) (stA zF).toList lits33 cells33 (sameK_st hf) (sameK_st hg)
theorem st_same (w : World) {f g : F} (hf : Wf f) (hg : Wf g) (e : stA f = stA g) : (Op.equalIn 10000 53 (.agg (stA f)) (.agg (stA g))).run Try.prog w = .ok true w := by
  obtain ⟨r, hr, hi⟩ := st_eql w hf hg
  rw [hi.2 e] at hr
  exact hr
theorem first_step : stA (stepF (newF 1) (fun _ => 0)) = stA (put (put (newF 1) 0 1) 1 (rollV 1)) := by kernel_rfl
theorem hz66 : Try.zeroCells53.size = 66 := by rw [← stA_zero]; exact stA_size _
/-- 's := ..' of a state: a block laid and stored whole. -/
theorem alloc_store (w : World) {C : Array Value} {f : F} (L : Let C f) : ∃ W3, (storeCells ⟨w.heap.size, 0, none⟩ C.toList).run Try.prog (w.alloc (.cells Try.zeroCells53 53)) = .ok () W3 ∧ SB W3 w.heap.size 53 f ∧ Below w.heap.size w W3 ∧ w.heap.size + 1 = W3.heap.size := by
  have hX : Blk (w.alloc (.cells Try.zeroCells53 53)) w.heap.size 53 Try.zeroCells53 := Blk.new _ _ _
  have := run_storeCells_from (P := Try.prog) w.heap.size 53 C.toList 0 _ _ hX (by rw [hz66]; simp [L.size]) (fun v hv => (Array.all_eq_true_iff_forall_mem.1 L.one) v (by simpa using hv))
  refine ⟨_, this, ?_, ?_, by simp⟩
  · have e : (Try.zeroCells53.toList.take 0 ++ C.toList).toArray = C := by simp
    rw [e]
    exact L.sb (hX.setRow C)
  · exact ((Below.refl _ w).alloc (Nat.le_refl _) _).trans ((touch_setRow _ w.heap.size _).below (by simp) (fun k hk => by omega))

set_option maxRecDepth 100000 in
set_option maxHeartbeats 4000000 in
theorem awake_any (w : World) : Calls Try.prog 39 #[] w fun e w' => e = .returned (.bool true) ∧ Below w.heap.size w w' := by
  have pN := Lib.hid (new_any w 1 (by decide) (by decide))
  obtain ⟨C, LC⟩ := let_of (newF 1)
  have hI := Inv.new 1 (by decide) (by decide)
  have pS := Lib.hid (fun W => step_any W (newF 1) 0 0 (fun _ => 0) (fun _ _ => by decide) hI (by decide) (by decide) (by decide))
  obtain ⟨D, LD⟩ := let_of (stepF (newF 1) (fun _ => 0))
  unfold stV at pN pS
  unfold inV at pS
  rw [← LC.eq] at pN pS
  rw [← LD.eq] at pS
  have pR := Lib.hid (fun W => roll_any W 1 (by decide) (by decide))
  have hcs := LC.size
  have hds := LD.size
  have hcr := LC.eq
  have e0 : newF 1 0 = 0 := rfl
  have e1 : newF 1 1 = 1 := rfl
  have HA := Lib.hid (fun W => alloc_store W LC)
  have HB := Lib.hid (fun W => alloc_store W LD)
  have hif := Lib.hid LC.info
  have hifD := Lib.hid LD.info
  have wfD : Wf (stepF (newF 1) (fun _ => 0)) := (hI.step _).wf (by decide) (by decide) (by decide)
  have wfE : Wf (put (put (newF 1) 0 1) 1 (rollV 1)) := by
    have w0 := hI.wf (by decide) (by decide) (by decide)
    refine ⟨fun j hj => ?_, by decide⟩
    unfold put
    split
    · decide
    · split
      · decide
      · exact w0.i64 j hj
  obtain ⟨E, LE⟩ := let_of (put (put (newF 1) 0 1) 1 (rollV 1))
  have hq : ∀ W, (Op.equalIn 10000 53 (.agg D) (.agg E)).run Try.prog W = .ok true W := fun W => by
    rw [LD.eq, LE.eq]; exact st_same W wfD wfE first_step
  have hg := guard33
  have LEE := Lib.hid LE
  clear hcr wfD wfE hI LE
  have LDD := Lib.hid LD
  have LCC := Lib.hid LC
  clear LC LD e0 e1
  go_enter Try.func39, Try.ntmps39
  go_wp2_with fail
  refine pN.out.mono ?_
  rintro e w1 ⟨rfl, hb1⟩
  obtain ⟨W3, hrun, hS3, hB3, hz3⟩ := HA.out w1
  have hz66' := hz66
  go_upto_region 2 with fail
  clear hrun hz66'
  have hzz := hb1.size
  have hBB := hb1.trans (hB3.mono hb1.size)
  have hS3' := LCC.out.blk hS3
  have hif2 := hif.out
  go_wp2_with (refine wpList_load_blk (by rfl) 53 _ (by rfl) w1.heap.size (by rfl) _ C _ hS3' Try.underlying53 (by rfl) hif2 ?_)
  refine (pS.out _).mono ?_
  rintro e w4 ⟨rfl, hb4⟩
  obtain ⟨W5, hrun, hS5, hB5, hz5⟩ := HB.out w4
  have hz66' := hz66
  go_upto_region 3 with fail
  clear hrun hz66'
  have hz4 := hb4.size
  have hS4 := (hS3.below hb4 hS3.lt).below hB5 (by omega)
  have hBB5 := (hBB.trans (hb4.mono hBB.size)).trans (hB5.mono (by omega))
  have c0 := hS4.int (j := 0) (by omega) (by omega) (by omega)
  have c1 := hS4.seed
  have f0 := hS4.fr 0
  have f1 := hS4.fr 1
  have R := (hS4.setInt (j := 0) (by omega) (by omega) (by omega) 1).set_ (j := 1) (by omega) (rollV 1)
  rw [cv_seed] at R
  have T : Touch (fun k => k = w1.heap.size) W5 ((W5.setCell ⟨w1.heap.size, 0, none⟩ (.int .i64 1)).setCell ⟨w1.heap.size, 1, none⟩ (.int .u32 (rollV 1))) := ((Touch.refl (fun k => k = w1.heap.size) _).setCell (.inl rfl) _).setCell (.inl rfl) _
  have hS6 := hS5.touch T (by omega)
  have hBB6 := hBB5.trans (T.below hBB5.size (fun k hk => by omega))
  clear hS3 hS3' hif2 hb1 hb4 hB3 hB5
  go_wp2_with fail
  refine (pR.out _).mono ?_
  rintro e w' ⟨rfl, rfl⟩
  go_upto_region 4 with fail
  clear c0 c1 f0 f1 T
  generalize (W5.setCell ⟨w1.heap.size, 0, none⟩ (.int .i64 1)).setCell ⟨w1.heap.size, 1, none⟩ (.int .u32 (rollV 1)) = W6 at *
  have hX := LDD.out.blk hS6
  have hY := LEE.out.blk R
  have hifE := LEE.out.info
  have hifD2 := hifD.out
  go_wp2_with (first | (refine wpList_load_blk (by rfl) 53 _ (by rfl) w4.heap.size (by rfl) _ D _ hX Try.underlying53 (by rfl) hifD2 ?_) | (refine wpList_load_blk (by rfl) 53 _ (by rfl) w1.heap.size (by rfl) _ E _ hY Try.underlying53 (by rfl) hifE ?_))
  go_ret
  exact ⟨rfl, hBB6⟩
end Go.Proofs.Ytckkpgopddnkiaa.Gm
namespace Go.Proofs.Ytckkpgopddnkiaa
open Go.RowKit

def flat {α : Type} (cs : α → List Value) (l : List α) : List Value := l.flatMap cs
section
variable {α : Type} {cs : α → List Value} {s : Nat}
theorem flat_len (hs : ∀ x, (cs x).length = s) (l : List α) : (flat cs l).length = l.length * s := by
  induction l with
  | nil => simp [flat]
  | cons x l ih =>
    unfold flat at ih ⊢
    rw [List.flatMap_cons, List.length_append, ih, hs, List.length_cons, Nat.add_mul]; omega
theorem flat_snoc (l : List α) (x : α) : flat cs (l ++ [x]) = flat cs l ++ cs x := by simp [flat]
theorem flat_app (l m : List α) : flat cs (l ++ m) = flat cs l ++ flat cs m := by simp [flat]
theorem flat_drop (hs : ∀ x, (cs x).length = s) (l : List α) (k : Nat) : (flat cs l).drop (k * s) = flat cs (l.drop k) := by
  by_cases hk : k ≤ l.length
  · conv => lhs; rw [← List.take_append_drop k l, flat_app]
    have : (flat cs (l.take k)).length = k * s := by rw [flat_len hs, List.length_take, Nat.min_eq_left hk]
    rw [← this]
    exact List.drop_left
  · rw [List.drop_of_length_le (by rw [flat_len hs]; exact Nat.mul_le_mul_right _ (by omega)), List.drop_of_length_le (by omega)]; rfl
theorem flat_take (hs : ∀ x, (cs x).length = s) (l : List α) (k : Nat) : (flat cs l).take (k * s) = flat cs (l.take k) := by
  by_cases hk : k ≤ l.length
  · conv => lhs; rw [← List.take_append_drop k l, flat_app]
    have : (flat cs (l.take k)).length = k * s := by rw [flat_len hs, List.length_take, Nat.min_eq_left hk]
    rw [← this]
    exact List.take_left
  · rw [List.take_of_length_le (by rw [flat_len hs]; exact Nat.mul_le_mul_right _ (by omega)), List.take_of_length_le (by omega)]
theorem flat_get (hs : ∀ x, (cs x).length = s) (l : List α) {j i : Nat} {x : α} (hj : l[j]? = some x) (hi : i < s) : (flat cs l)[j * s + i]? = (cs x)[i]? := by
  have hjl := (List.getElem?_eq_some_iff.1 hj).1
  have h1 := flat_drop hs l j
  rw [← List.getElem?_drop, h1]
  have h2 : l.drop j = x :: l.drop (j + 1) := by
    rw [List.drop_eq_getElem_cons hjl]
    rw [List.getElem?_eq_getElem hjl] at hj
    cases hj; rfl
  rw [h2]
  unfold flat
  rw [List.flatMap_cons, List.getElem?_append_left (by rw [hs]; exact hi)]
theorem one_flat (h : ∀ x, ∀ u ∈ cs x, u.oneCell' = true) (l : List α) : ∀ u ∈ flat cs l, u.oneCell' = true := by
  intro u hu
  obtain ⟨x, _, hx⟩ := List.mem_flatMap.1 hu
  exact h x u hx
end
/-- The source is the end of a slice at a block's head. -/
theorem src_drop_n {w : World} {e : TypeId} {size g n cap : Nat} {xs : List Value} (h : On w e size (.slice (some ⟨g, 0, none⟩) n cap) n xs) (k : Nat) : Src w (some ⟨g, k * size, none⟩) (n - k) (xs.drop (k * size)) := by
  refine .inr ⟨_, rfl, fun j u hu => ?_⟩
  rcases h.form with ⟨hv, _⟩ | ⟨g', cap', hv, _, _, _, _, hc, _⟩
  · cases hv
  · cases hv
    have hadd : (⟨g, k * size, none⟩ : Addr).add j = ⟨g, k * size + j, none⟩ := by unfold Addr.add; split <;> simp_all
    rw [hadd]
    exact hc _ u (by rw [← hu, List.getElem?_drop])
/-- The source is a block just laid. -/
theorem src_new (w : World) (e : TypeId) (size : Nat) (cs : List Value) : Src (w.alloc (.cells cs.toArray e)) (some ⟨w.heap.size, 0, none⟩) size cs := by
  refine .inr ⟨_, rfl, fun j u hu => ?_⟩
  have hadd : (⟨w.heap.size, 0, none⟩ : Addr).add j = ⟨w.heap.size, j, none⟩ := by unfold Addr.add; split <;> simp_all
  rw [hadd, (Blk.new w e cs.toArray).cell j]
  simpa using hu
end Go.Proofs.Ytckkpgopddnkiaa
namespace Go.Proofs.Ytckkpgopddnkiaa.Byt
open Go.RowKit
set_option linter.all false

def be4 (z : Int) : List Int := [z / 16777216 % 256, z / 65536 % 256, z / 256 % 256, z % 256]
def be8 (z : Int) : List Int := be4 (z / 4294967296) ++ be4 z
def ub (l : List Int) : List Value := l.map (Value.int .u8)
theorem ub_len (l : List Int) : (ub l).length = l.length := by simp [ub]
theorem ub_app (l m : List Int) : ub (l ++ m) = ub l ++ ub m := by simp [ub]
theorem ub_one (l : List Int) : ∀ u ∈ ub l, u.oneCell' = true := one_map .u8 l
/-- Bytes in a slice. -/
def Out (w : World) (v : Value) (xs : List Int) : Prop := On w 5 1 v xs.length (ub xs)
theorem Out.nil (w : World) : Out w (.slice none 0 0) [] := On.nil _ _ _
theorem Out.below' {w w' : World} {v : Value} {xs : List Int} (h : Out w v xs) (hb : Below w.heap.size w w') : Out w' v xs := On.below h hb (On.lt h)
abbrev OwnB (v : Value) : Nat → Prop := fun k => v.ownBlock = some k
/-- What a function that puts bytes hands back. -/
def Puts (w : World) (v : Value) (xs : List Int) (e : Ending) (w' : World) : Prop := ∃ v', e = .returned v' ∧ Out w' v' xs ∧ Touch (OwnB v) w w' ∧ (∀ g, v'.ownBlock = some g → v.ownBlock = some g ∨ w.heap.size ≤ g)
theorem be4_wrap (z : Int) : be4 (IntKind.u32.wrap z) = be4 z := by
  simp only [be4, IntKind.wrap, IntKind.bits, IntKind.signed]
  simp
  omega
theorem be8_wrap (z : Int) : be8 (IntKind.u64.wrap z) = be8 z := by
  simp only [be8, be4, IntKind.wrap, IntKind.bits, IntKind.signed]
  simp
  omega
theorem info8 : (Try.prog.info? 5).map (fun i => (i.zero, i.size, i.bytes)) = some (some (.int .u8 0), 1, 1) := by kernel_rfl

set_option maxRecDepth 100000 in
set_option maxHeartbeats 2000000 in
theorem put32_any (w : World) (v : Value) (xs : List Int) (z : Int) (h : Out w v xs) (hl : xs.length ≤ 1000000) (h0 : 0 ≤ z) (h1 : z < 4294967296) :
    Calls Try.prog 80 #[v, .int .u32 z] w (Puts w v (xs ++ be4 z)) := by
  obtain ⟨i0, hi, hz0, hz1, hz2⟩ := info_parts info8
  have w1 : IntKind.u8.wrap (z / 16777216) = z / 16777216 % 256 := by simp [IntKind.wrap, IntKind.bits, IntKind.signed]
  have w2 : IntKind.u8.wrap (z / 65536) = z / 65536 % 256 := by simp [IntKind.wrap, IntKind.bits, IntKind.signed]
  have w3 : IntKind.u8.wrap (z / 256) = z / 256 % 256 := by simp [IntKind.wrap, IntKind.bits, IntKind.signed]
  have w4 : IntKind.u8.wrap z = z % 256 := by simp [IntKind.wrap, IntKind.bits, IntKind.signed]
  have fin : ∀ (u v' : Value) (w' : World), u.ownBlock = v.ownBlock → On w' 5 1 v' (xs.length + 4) (ub xs ++ ub (be4 z)) → (w.alloc (.cells #[.int .u8 (z / 16777216 % 256), .int .u8 (z / 65536 % 256), .int .u8 (z / 256 % 256), .int .u8 (z % 256)] 5)).grownBy w' u.ownBlock → (v'.ownBlock = u.ownBlock ∨ v'.ownBlock = some (w.alloc (.cells #[.int .u8 (z / 16777216 % 256), .int .u8 (z / 65536 % 256), .int .u8 (z / 256 % 256), .int .u8 (z % 256)] 5)).heap.size) →
      Puts w v (xs ++ be4 z) (.returned v') w' := by
    intro u v' w' hu hon hg how
    refine ⟨v', rfl, ?_, ?_, ?_⟩
    · unfold Out; rw [List.length_append, ub_app]; exact hon
    · exact ((Touch.refl _ _).alloc _).grown hg (fun k hk => .inl (by show v.ownBlock = some k; rw [← hu]; exact hk))
    · intro g hgv
      rcases how with e | e
      · exact .inl (by rw [← hu, ← e]; exact hgv)
      · rw [e] at hgv; cases hgv; exact .inr (by simp)
  have HFin := Lib.hid fin
  clear fin
  rcases h.form with ⟨rfl, hn, hx⟩ | ⟨g, cap, rfl, hnc, hcm, how, hgl, hcell, hfr⟩
  · have hxs : xs = [] := List.eq_nil_of_length_eq_zero hn
    subst hxs
    clear hn hx
    have X := Lib.hid (show Out (w.alloc (.cells #[.int .u8 (z / 16777216 % 256), .int .u8 (z / 65536 % 256), .int .u8 (z / 256 % 256), .int .u8 (z % 256)] 5)) (.slice none 0 0) [] from Out.nil _)
    clear h
    go_enter Try.func80, Try.ntmps80
    go_wp2_with (at_builtin; refine wpList_append_on _ (by rfl) _ _ 81 (by rfl) 5 i0 _ 1 1 Try.underlying81 hi hz0 hz1 hz2 (by rfl) (by omega) (.slice none 0 0) 0 [] (by rfl) X.out (some ⟨w.heap.size, 0, none⟩) 4 4 (ub (be4 z)) (by rfl) (by rfl) (src_new w 5 4 (ub (be4 z))) (ub_one _) (by simp only [maxLen]; omega) (by omega) ?_; intro v' w' hon hg hv')
    go_ret
    exact HFin.out _ _ _ rfl hon hg hv'
  · have hcut := On.cut h (k := xs.length) (Nat.le_refl _)
    have e1 : (ub xs).take (xs.length * 1) = ub xs := by rw [Nat.mul_one, ← ub_len xs, List.take_length]
    rw [e1] at hcut
    have X := hcut.alloc (.cells #[.int .u8 (z / 16777216 % 256), .int .u8 (z / 65536 % 256), .int .u8 (z / 256 % 256), .int .u8 (z % 256)] 5)
    have l1 : (xs.length : Int) ≤ (cap : Int) := by omega
    have l0 : (0 : Int) ≤ (xs.length : Int) := by omega
    obtain ⟨n, hn⟩ : ∃ n, n = xs.length := ⟨_, rfl⟩
    have HL := Lib.hid hn
    rw [← hn] at l1 l0 X
    have hcm' : cap ≤ 9223372036854775807 := by simp only [maxLen] at hcm; omega
    have hn2 : n ≤ 1000000 := by omega
    rw [← hn]
    have X3 := Lib.hid X
    clear h hcut e1 hcell hfr hnc hl hn X
    go_enter Try.func80, Try.ntmps80
    go_wp2_with (at_builtin; refine wpList_append_on _ (by rfl) _ _ 81 (by rfl) 5 i0 _ 1 1 Try.underlying81 hi hz0 hz1 hz2 (by rfl) (by omega) (.slice (some ⟨g, 0, none⟩) n n) n (ub xs) (by rfl) X3.out (some ⟨w.heap.size, 0, none⟩) 4 4 (ub (be4 z)) (by rfl) (by rfl) (src_new w 5 4 (ub (be4 z))) (ub_one _) (by simp only [maxLen]; omega) (by omega) ?_; intro v' w' hon hg hv')
    go_ret
    have HF := HFin.out (.slice (some ⟨g, 0, none⟩) n n) _ _ (by rfl) (by rw [← HL.out]; exact hon) hg hv'
    rw [← HL.out] at HF
    exact HF

set_option maxRecDepth 100000 in
set_option maxHeartbeats 2000000 in
theorem put64_any (w : World) (v : Value) (xs : List Int) (z : Int) (h : Out w v xs) (hl : xs.length ≤ 900000) (h0 : 0 ≤ z) (h1 : z < 18446744073709551616) :
    Calls Try.prog 81 #[v, .int .u64 z] w (Puts w v (xs ++ be8 z)) := by
  have w1 : IntKind.u32.wrap (z / 4294967296) = z / 4294967296 := IntWalk.u32_in _ (by omega)
  have p1 := Lib.hid (put32_any w v xs (z / 4294967296) h (by omega) (by omega) (by omega))
  have hw2 : 0 ≤ IntKind.u32.wrap z ∧ IntKind.u32.wrap z < 4294967296 := by simp [IntKind.wrap, IntKind.bits, IntKind.signed]; omega
  have HE := Lib.hid (be4_wrap z)
  have HL := Lib.hid hl
  obtain ⟨y, hy⟩ : ∃ y, y = IntKind.u32.wrap z := ⟨_, rfl⟩
  have hy' := hy.symm
  rw [hy'] at HE hw2
  obtain ⟨x, hx⟩ : ∃ x, x = z / 4294967296 := ⟨_, rfl⟩
  have HX := Lib.hid hx
  have hx' := hx.symm
  rw [hx'] at p1 w1
  clear h hl hx hy
  go_enter Try.func81, Try.ntmps81
  go_wp2_with fail
  refine p1.out.mono ?_
  rintro e w1' ⟨v1, rfl, o1, t1, g1⟩
  have p2 := Lib.hid (put32_any w1' v1 (xs ++ be4 x) y o1 (by have := HL.out; rw [List.length_append]; simp [be4]; omega) hw2.1 hw2.2)
  clear p1 o1
  go_wp2_with fail
  refine p2.out.mono ?_
  rintro e w2' ⟨v2, rfl, o2, t2, g2⟩
  go_wp2_with fail
  go_ret
  have hs := t1.size
  refine ⟨v2, rfl, ?_, t1.trans t2 (fun k hk => g1 k hk), fun g hg => ?_⟩
  · have e : xs ++ be8 z = xs ++ be4 x ++ be4 y := by rw [HE.out, HX.out, List.append_assoc]; rfl
    rw [e]
    exact o2
  · rcases g2 g hg with e | e
    · exact g1 g e
    · exact .inr (by omega)
end Go.Proofs.Ytckkpgopddnkiaa.Byt
