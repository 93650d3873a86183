/-
  Texts joined: RsB. No condition.
-/
import Derived.Test.YtckkpgopddnkiaaBRollSure1
import Derived.StillTailTactics
namespace Go.Proofs.Ytckkpgopddnkiaa.Rl
open Go.RowKit Go.Sort Go.Proofs.Ytckkpgopddnkiaa.Gm Go.Proofs.Ytckkpgopddnkiaa.RingE Go.Proofs.Ytckkpgopddnkiaa.Inputq
set_option linter.all false

set_option maxRecDepth 100000 in
set_option maxHeartbeats 4000000 in
theorem sure_out (w : World) (sd lo de ah : Int) (v : Value) (hr : rightB lo de ah = false) :
    Calls Try.prog 5 #[.agg #[.int .u32 sd, .int .i64 lo, .int .i64 de, .int .i64 ah], v] w fun e w' => e = .returned (.bool true) ∧ Below w.heap.size w w' := by
  have pA := Lib.hid (fun W => awake25 W)
  have pR := Lib.hid (show ∀ W, Calls Try.prog 33 #[.agg #[.int .u32 sd, .int .i64 lo, .int .i64 de, .int .i64 ah]] W fun e w' => e = .returned (.bool false) ∧ Below W.heap.size W w' from fun W => by
    have := right_law W sd lo de ah
    rw [hr] at this
    exact this)
  obtain ⟨W1, hW1⟩ : ∃ W1, W1 = w.alloc (.cells #[.int .u32 sd, .int .i64 lo, .int .i64 de, .int .i64 ah] 58) := ⟨_, rfl⟩
  have hX : Blk W1 w.heap.size 58 #[.int .u32 sd, .int .i64 lo, .int .i64 de, .int .i64 ah] := by rw [hW1]; exact Blk.new _ _ _
  have hB : Below w.heap.size w W1 := by rw [hW1]; exact (Below.refl _ w).alloc (Nat.le_refl _) _
  go_enter Try.func5, Try.ntmps5
  go_upto_region 1 with fail
  rw [← hW1]
  clear hW1
  go_wp2_with fail
  refine (pA.out _).mono ?_
  rintro e w1 ⟨rfl, b1⟩
  have hX1 := hX.below b1 hX.lt
  have k0 := hX1.cell 0
  have k1 := hX1.cell 1
  have k2 := hX1.cell 2
  have k3 := hX1.cell 3
  simp only [List.getElem?_toArray, List.getElem?_cons_zero, List.getElem?_cons_succ] at k0 k1 k2 k3
  have HB := Lib.hid (hB.trans (b1.mono hB.size))
  clear hX hX1 hB b1
  go_wp2_with fail
  refine (pR.out _).mono ?_
  rintro e w2 ⟨rfl, b2⟩
  have HB2 := Lib.hid (HB.out.trans (b2.mono HB.out.size))
  clear b2
  go_wp2_with fail
  go_ret
  exact ⟨rfl, HB2.out⟩

/-- The play with the known inputs. -/
theorem SU.play {w wr : World} {cf : Cfg} {g d : Nat} {s : SE} {x : H} {v : Nat → Value} {S : Nat → List Nat} {K : Nat} (h : SU w wr cf g d s x v S S K) {n : Nat} (hn : (n : Int) < sureH x) :
    n < (S 0).length ∧ n < (S 1).length ∧ pl cf.sd x.us (n + 1) = stepF (pl cf.sd x.us n) (fun i => if i = 0 then (S 0).getD n 0 else (S 1).getD n 0) := by
  have hs := sureH_le x
  have h0 := h.ks 0 (by omega)
  have h1 := h.ks 1 (by omega)
  rw [h0, h1] at hs
  refine ⟨by omega, by omega, ?_⟩
  show stepF (pl cf.sd x.us n) (inA x.us n) = _
  congr 1
  unfold inA
  rw [List.getD_eq_getElem?_getD, sure_us h.j hn, h0, h1]
  rfl
theorem SU.mono {w wr W : World} {cf : Cfg} {g d : Nat} {s : SE} {x : H} {v : Nat → Value} {S : Nat → List Nat} {K : Nat} (h : SU w wr cf g d s x v S S K) {k : Nat} {t : TypeId} {cs : Array Value} (hk : Blk wr k t cs) (ht : t = 53) (hb : w.heap.size ≤ k) (hT : Touch (fun b => b = k) wr W) : SU w W cf g d s x v S S K := by
  subst ht
  exact { h with ha := h.ha.touch hT (fun b hb2 e => h.ha.other' hk (by decide) (e ▸ hb2)), cfg := h.cfg.touch hT (fun e => Blk.ne_ h.cfg hk (by decide) e), kn := h.kn.touch hT (fun e => Blk.ne_ h.kn hk (by decide) e), l := fun i hi => (h.l i hi).touch hT (fun b hb2 e => On.blk_ne (h.l i hi) hk (by decide) (e ▸ hb2)), lo := h.lo.trans (hT.below h.lo.size (fun b e => e ▸ hb)) }

theorem let_same2 {C : Array Value} {f : F} (L : Let C f) (wf : Wf f) : ∀ W, (Op.equalIn 10000 53 (.agg C) (.agg C)).run Try.prog W = .ok true W := by
  obtain ⟨e, -, -, -⟩ := L
  subst e
  intro W
  exact st_same W wf wf rfl
/-- The second loop: the engine, and the state beside it. -/
structure SV (w wr : World) (cf : Cfg) (g d k : Nat) (s : SE) (x : H) (v : Nat → Value) (S : Nat → List Nat) (K n : Nat) (L : List Value) : Prop where
  su : SU w wr cf g d s x v S S K
  blk : Blk wr k 53 L.toArray
  bk : w.heap.size ≤ k
  st : ∃ f, Let L.toArray f ∧ ((n : Int) ≤ sureH x → f = pl cf.sd x.us n)
theorem SV.below {w wr W : World} {cf : Cfg} {g d k : Nat} {s : SE} {x : H} {v : Nat → Value} {S : Nat → List Nat} {K n : Nat} {L : List Value} (h : SV w wr cf g d k s x v S K n L) (hb : Below wr.heap.size wr W) : SV w W cf g d k s x v S K n L :=
  ⟨h.su.below hb, h.blk.below hb h.blk.lt, h.bk, h.st⟩
theorem SV.row {w wr : World} {cf : Cfg} {g d k : Nat} {s : SE} {x : H} {v : Nat → Value} {S : Nat → List Nat} {K n : Nat} {L : List Value} (h : SV w wr cf g d k s x v S K n L) : rowIn wr k 0 66 = some L := by
  obtain ⟨f, LC, -⟩ := h.st
  refine rowIn_of (fun j u hu => ?_) (by have := LC.size; simpa using this)
  rw [Nat.zero_add, h.blk.cell j]
  simpa using hu
theorem SV.sure {w wr : World} {cf : Cfg} {g d k : Nat} {s : SE} {x : H} {v : Nat → Value} {S : Nat → List Nat} {K n : Nat} {L : List Value} (h : SV w wr cf g d k s x v S K n L) :
    ∀ j, Calls Try.prog 30 #[.pointer (some ⟨g, 0, none⟩)] (wr.drewN j) fun e w' => e = .returned (.int .i64 (sureH x)) ∧ ∃ m, w' = (wr.drewN j).drewN m := fun j => by
  have := sure_h (h.su.ha.below (below_drewN (Below.refl _ wr) j)) h.su.j.j0
  rw [h.su.ea] at this
  exact this
theorem SV.skip {w wr : World} {cf : Cfg} {g d k : Nat} {s : SE} {x : H} {v : Nat → Value} {S : Nat → List Nat} {K n : Nat} {L : List Value} (h : SV w wr cf g d k s x v S K n L) (hn : ¬ (n : Int) < sureH x) : SV w wr cf g d k s x v S K (n + 1) L := by
  obtain ⟨f, LC, hf⟩ := h.st
  exact ⟨h.su, h.blk, h.bk, f, LC, fun h2 => by omega⟩
/-- What At answers of a frame that is sure: the state, or that it is old. -/
theorem SV.at {w wr : World} {cf : Cfg} {g d k : Nat} {s : SE} {x : H} {v : Nat → Value} {S : Nat → List Nat} {K n : Nat} {L : List Value} (h : SV w wr cf g d k s x v S K n L) (hn : (n : Int) ≤ sureH x) :
    ∃ L2 : List Value, ∃ code : Int, ((code = 0 ∧ L2 = L) ∨ code = 90) ∧ (∃ f2, Let L2.toArray f2) ∧ (∀ W, (Op.equalIn 10000 53 (.agg L.toArray) (.agg L.toArray)).run Try.prog W = .ok true W) ∧
      ∀ W, Below wr.heap.size wr W → Calls Try.prog 31 #[.pointer (some ⟨g, 0, none⟩), .int .i64 (n : Int)] W fun e w' => e = .returned (.tuple #[.agg L2.toArray, .int .i64 code]) ∧ Below W.heap.size W w' := by
  obtain ⟨f, LC, hf⟩ := h.st
  have hun := h.su.j.un
  have hs := (sureH_le x).1
  have hfe := hf hn
  have wf : Wf f := by rw [hfe]; exact (pl_inv h.su.j.sd x.us n).wf (by omega) (by omega) (by omega)
  obtain ⟨D, LD⟩ := let_of (atHF cf x n)
  refine ⟨D.toList, atHE x n, ?_, ⟨_, by rw [Array.toArray_toList]; exact LD⟩, let_same2 LC wf, fun W hW => ?_⟩
  · by_cases h0 : atHE x n = 0
    · left
      refine ⟨h0, ?_⟩
      have e1 : atHF cf x n = f := by unfold atHF; rw [if_pos h0, Int.toNat_natCast, hfe]
      rw [e1] at LD
      have : D = L.toArray := by rw [LD.eq, LC.eq]
      rw [this]
    · right
      unfold atHE at h0 ⊢
      rw [if_neg (by omega)] at h0 ⊢
      split at h0
      · rename_i h1; rw [if_pos h1]
      · exact absurd rfl h0
  · have := at_h W cf s x n (h.su.ha.below hW) h.su.j (by omega)
    rw [h.su.ea] at this
    refine this.mono fun e w' ⟨C', LC', he, hb⟩ => ⟨?_, hb⟩
    rw [he, Array.toArray_toList, LC'.eq, LD.eq]
/-- One step of the play. -/
theorem SV.next {w wr : World} {cf : Cfg} {g d k : Nat} {s : SE} {x : H} {v : Nat → Value} {S : Nat → List Nat} {K n : Nat} {L : List Value} (h : SV w wr cf g d k s x v S K n L) (hn : (n : Int) < sureH x) :
    ∃ L2 : List Value, (n < (S 0).length ∧ n < (S 1).length) ∧
      (∀ W, Calls Try.prog 37 #[.agg L.toArray, .agg #[.int .u16 (((S 0).getD n 0 : Nat) : Int), .int .u16 (((S 1).getD n 0 : Nat) : Int)]] W fun e w' => e = .returned (.agg L2.toArray) ∧ Below W.heap.size W w') ∧
      (∀ W, Below wr.heap.size wr W → ∃ W', storeR Try.prog 53 (.pointer (some ⟨k, 0, none⟩)) (.agg L2.toArray) W = .ok .skip W' ∧ SV w W' cf g d k s x v S K (n + 1) L2) := by
  obtain ⟨f, LC, hf⟩ := h.st
  have hun := h.su.j.un
  have hs := (sureH_le x).1
  have hfe := hf (by omega)
  obtain ⟨hl0, hl1, hst⟩ := h.su.play hn
  obtain ⟨D, LD⟩ := let_of (pl cf.sd x.us (n + 1))
  have hI := pl_inv h.su.j.sd x.us n
  have hlt : ∀ i, i < 2 → ∀ m, m < (S i).length → (S i).getD m 0 < 65536 := fun i hi m hm => by
    rw [List.getD_eq_getElem?_getD, List.getElem?_eq_getElem hm]
    have := h.su.j.kv i hi
    rw [h.su.ks i hi] at this
    exact this _ (List.getElem_mem hm)
  refine ⟨D.toList, ⟨hl0, hl1⟩, fun W => ?_, fun W hW => ?_⟩
  · have := rstep_any W L.toArray f n (8 * (n : Int)) (fun i => if i = 0 then (S 0).getD n 0 else (S 1).getD n 0) LC (fun i hi => by
      split
      · exact hlt 0 (by omega) n hl0
      · exact hlt 1 (by omega) n hl1) (by rw [hfe]; exact hI) (by omega) (by omega) (by omega)
    refine this.mono fun e w' ⟨C', LC', he, hb⟩ => ⟨?_, hb⟩
    rw [he, Array.toArray_toList, LC'.eq, LD.eq, hst, hfe]
  · have hbk := h.blk.below hW h.blk.lt
    have ht : W.there k 0 D.size := fun j hj => by
      rw [Nat.zero_add, hbk.cell]
      refine ⟨?_, hbk.frozen j⟩
      rw [Array.getElem?_eq_getElem (by rw [LC.size, ← LD.size]; exact hj)]
      rfl
    have h2 := setCells_mid D.toList L [] [] W (by simpa using hbk) (by have a := LC.size; have b := LD.size; simp at a b ⊢; omega)
    have e : Blk (W.setCells k 0 D.toList) k 53 D := by simpa using h2
    have hT : Touch (fun b => b = k) W (W.setCells k 0 D.toList) := touch_setCells (S := fun b => b = k) (Touch.refl _ _) _ (.inl rfl) _ _
    refine ⟨_, by rw [Array.toArray_toList]; exact storeR_mid ht LD.info LD.one rfl, ⟨(h.su.below hW).mono hbk rfl h.bk hT, by rw [Array.toArray_toList]; exact e, h.bk, _, by rw [Array.toArray_toList]; exact LD, fun _ => rfl⟩⟩

section
attribute [local go_sem ↓] append_I exec33 exec_st33
attribute [local go_sem] loadE33 loadI_some rowIn_drew
set_option maxRecDepth 100000 in
set_option maxHeartbeats 16000000 in
theorem sure_in0 (w : World) (sd dn : Nat) (ah : Int) (hsd : sd < 4294967296) (hde : dn ≤ 8) (hah : 1 ≤ ah ∧ ah ≤ 16) (a : Option Addr) (c : Nat) (ops : List (Int × Nat × Int)) (hops : ROps w a ops) (hlen : ops.length ≤ 9223372036854775807) :
    Calls Try.prog 5 #[.agg #[.int .u32 (sd : Int), .int .i64 0, .int .i64 (dn : Int), .int .i64 ah], .slice a ops.length c] w fun e w' => e = .returned (.bool true) ∧ Below w.heap.size w w' := by
  have pA := Lib.hid (fun W => awake25 W)
  have pR := Lib.hid (show ∀ W, Calls Try.prog 33 #[.agg #[.int .u32 (sd : Int), .int .i64 0, .int .i64 (dn : Int), .int .i64 ah]] W fun e w' => e = .returned (.bool true) ∧ Below W.heap.size W w' from fun W => by
    have := right_law W sd 0 (dn : Int) ah
    rw [show rightB 0 (dn : Int) ah = true by unfold rightB; simp; omega] at this
    exact this)
  obtain ⟨cf, hcf⟩ : ∃ cf : Cfg, cf = ⟨sd, 0, (dn : Int), ah⟩ := ⟨_, rfl⟩
  have hj0 : J cf (newH cf) := by rw [hcf]; exact newH_J hsd (show (0 : Nat) < 2 by omega) hah (show 0 ≤ (dn : Int) ∧ (dn : Int) ≤ 8 by omega)
  have pN0 := Lib.hid (show ∀ W, Calls Try.prog 25 #[.agg #[.int .u32 (sd : Int), .int .i64 0, .int .i64 (dn : Int), .int .i64 ah]] W fun e w' => ∃ s, e = .returned (.tuple #[.pointer (some ⟨s.g, 0, none⟩), .int .i64 0]) ∧ HAt w' cf s (newH cf) ∧ Below W.heap.size W w' ∧ ∀ k, fpE s k → W.heap.size ≤ k from fun W => by
    rw [hcf]; exact new_any W ⟨sd, 0, (dn : Int), ah⟩ hsd (show (0 : Nat) < 2 by omega) hah (show 0 ≤ (dn : Int) ∧ (dn : Int) ≤ 8 by omega))
  have hmk := fun W => mk_inputs W dn (by omega)
  have HMO := Lib.hid (fun W => made_on W dn (by omega))
  have HJ0 := Lib.hid hj0
  have HOPS := Lib.hid hops
  have HCF := Lib.hid (show cf.sd = sd ∧ cf.lo = 0 ∧ cf.de = (dn : Int) ∧ cf.ah = ah by rw [hcf]; exact ⟨rfl, rfl, rfl, rfl⟩)
  obtain ⟨l, hl⟩ : ∃ l, ops.length = l := ⟨_, rfl⟩
  have HL := Lib.hid hl
  rw [hl]
  rw [hl] at hlen
  obtain ⟨W1, hW1⟩ : ∃ W1, W1 = w.alloc (.cells #[.int .u32 (sd : Int), .int .i64 0, .int .i64 (dn : Int), .int .i64 ah] 58) := ⟨_, rfl⟩
  have hX : Blk W1 w.heap.size 58 #[.int .u32 (sd : Int), .int .i64 0, .int .i64 (dn : Int), .int .i64 ah] := by rw [hW1]; exact Blk.new _ _ _
  have hB : Below w.heap.size w W1 := by rw [hW1]; exact (Below.refl _ w).alloc (Nat.le_refl _) _
  clear hops hl hj0 hcf
  go_enter Try.func5, Try.ntmps5
  go_upto_region 1 with fail
  rw [← hW1]
  clear hW1
  go_wp2_with fail
  refine (pA.out _).mono ?_
  rintro e w1 ⟨rfl, b1⟩
  have hX1 := hX.below b1 hX.lt
  have k0 := hX1.cell 0
  have k1 := hX1.cell 1
  have k2 := hX1.cell 2
  have k3 := hX1.cell 3
  simp only [List.getElem?_toArray, List.getElem?_cons_zero, List.getElem?_cons_succ] at k0 k1 k2 k3
  have HX1 := Lib.hid hX1
  have HB := Lib.hid (hB.trans (b1.mono hB.size))
  clear hX hX1 hB b1
  go_wp2_with fail
  refine (pR.out _).mono ?_
  rintro e w2 ⟨rfl, b2⟩
  have hX2 := HX1.out.below b2 HX1.out.lt
  have k0 := hX2.cell 0
  have k1 := hX2.cell 1
  have k2 := hX2.cell 2
  have k3 := hX2.cell 3
  simp only [List.getElem?_toArray, List.getElem?_cons_zero, List.getElem?_cons_succ] at k0 k1 k2 k3
  have HX2 := Lib.hid hX2
  have HB2 := Lib.hid (HB.out.trans (b2.mono HB.out.size))
  clear hX2 b2 HB HX1
  go_wp2_with fail
  refine (pN0.out _).mono ?_
  rintro e w3 ⟨s, rfl, hA, b3, fa⟩
  have hX3 := HX2.out.below b3 HX2.out.lt
  have HX3 := Lib.hid hX3
  have hz2 := HB2.out.size
  have HFA := Lib.hid (show ∀ k, fpE s k → w.heap.size ≤ k from fun k hk => Nat.le_trans hz2 (fa k hk))
  have HB3 := Lib.hid (HB2.out.trans (b3.mono HB2.out.size))
  have HA := Lib.hid hA
  have j2 := hX3.cell 2
  have ja : ∀ o, (w3.alloc o).cell? ⟨w.heap.size, 2, none⟩ = some (.int .i64 (dn : Int)) := fun o => (hX3.alloc o).cell 2
  have jb : ∀ o o', ((w3.alloc o).alloc o').cell? ⟨w.heap.size, 2, none⟩ = some (.int .i64 (dn : Int)) := fun o o' => ((hX3.alloc o).alloc o').cell 2
  simp only [List.getElem?_toArray, List.getElem?_cons_zero, List.getElem?_cons_succ] at j2
  clear hX3 b3 HB2 HX2 hA fa hz2 k0 k1 k2 k3
  obtain ⟨g, hg⟩ : ∃ g, s.g = g := ⟨_, rfl⟩
  rw [hg]
  have HSU := Lib.hid (show ∀ W d i0 i1, Below w3.heap.size w3 W → W.heap[d]? = some (.cells #[.slice (some ⟨i0, 0, none⟩) dn dn, .slice (some ⟨i1, 0, none⟩) dn dn] 74 (0, 0)) →
    W.heap[i0]? = some (.cells (u16s (List.replicate dn 0)).toArray 33 (0, 0)) → W.heap[i1]? = some (.cells (u16s (List.replicate dn 0)).toArray 33 (0, 0)) → ¬ i0 = i1 → w3.heap.size ≤ i0 → w3.heap.size ≤ i1 → w3.heap.size ≤ d →
    SU w W cf g d s (newH cf) (fun i => if i = 0 then .slice (some ⟨i0, 0, none⟩) dn dn else .slice (some ⟨i1, 0, none⟩) dn dn) (fun _ => List.replicate dn 0) (fun _ => List.replicate dn 0) 0 from fun W d i0 i1 hb hd h0 h1 hne b0 b1 bd => by
    rw [← hg]
    exact SU.start HCF.out.2.2.1 hde HB3.out HA.out HJ0.out HFA.out (by rw [HCF.out.1, HCF.out.2.1, HCF.out.2.2.1, HCF.out.2.2.2]; exact HX3.out) hb hd h0 h1 hne b0 b1 bd)
  go_upto_region 8 with fail
  go_cut [7] (fun dv wx => ∃ d v S, dv = .pointer (some ⟨d, 0, none⟩) ∧ SU w wx cf g d s (newH cf) v S S 0)
  case first =>
    go_region
    all_goals
      go_wp2_with fail
      go_meet
      obtain ⟨xa, xb, xc, xd⟩ := heap3 w3 _ _ _
      first
        | exact ⟨_, _, _, rfl, HSU.out _ _ _ _ xd xa xb xc (by omega) (by omega) (by omega) (by omega)⟩
        | exact ⟨_, _, _, rfl, HSU.out _ _ _ _ xd xa xc xb (by omega) (by omega) (by omega) (by omega)⟩
        | exact ⟨_, _, _, rfl, HSU.out _ _ _ _ xd xb xa xc (by omega) (by omega) (by omega) (by omega)⟩
        | exact ⟨_, _, _, rfl, HSU.out _ _ _ _ xd xb xc xa (by omega) (by omega) (by omega) (by omega)⟩
        | exact ⟨_, _, _, rfl, HSU.out _ _ _ _ xd xc xa xb (by omega) (by omega) (by omega) (by omega)⟩
        | exact ⟨_, _, _, rfl, HSU.out _ _ _ _ xd xc xb xa (by omega) (by omega) (by omega) (by omega)⟩
        | fail
  case rest =>
    obtain ⟨d, v, S, rfl, hS0⟩ := hcut
    have HS0 := Lib.hid hS0
    clear hS0 HSU HB3 HA HFA HX3 ja jb j2 hmk HMO
    go_wp2_with fail
    (try simp only [Bool.or_false, Bool.and_true, Bool.or_self, Bool.and_self, Bool.true_and, Bool.false_or])
    go_loopw [8] (fun iv wr => ∃ (i : Nat) (s : SE) (x : H) (v : Nat → Value) (S : Nat → List Nat), i ≤ 60 ∧ iv = .int .i64 (i : Int) ∧ SU w wr cf g d s x v S S i) (fun iv _ => 60 - (intOf iv).toNat)
    case atStart => exact ⟨0, s, _, v, S, by omega, rfl, HS0.out⟩
    case round =>
      clear HS0 HJ0 pN0 pA pR
      obtain ⟨i, s, x, v, S, hi, rfl, hX⟩ := hrel
      have HX := Lib.hid hX
      by_cases c1 : i < l
      · have c1' : (i : Int) < (l : Int) := by omega
        have c1'' : decide ((i : Int) < (l : Int)) = true := by simp; omega
        by_cases c2 : i < 60
        · have c2' : (i : Int) < 60 := by omega
          obtain ⟨o, ho⟩ : ∃ o, ops[i]? = some o := ⟨_, List.getElem?_eq_getElem (by rw [HL.out]; exact c1)⟩
          obtain ⟨hb1, hb2, hb3⟩ := HOPS.out.1 o (List.mem_of_getElem? ho)
          obtain ⟨b, off, rfl, hbl, hcs⟩ := HOPS.out.2 (by rw [HL.out]; omega)
          obtain ⟨k0, k1, k2⟩ := hcs i o ho
          obtain ⟨kd, u, of⟩ := o
          have z0 : wr.cell? ⟨b, off + i * 3, none⟩ = some (.int .i64 kd) := (HX.out.lo.cell (p := ⟨b, off + i * 3, none⟩) hbl).trans k0
          have z1 : wr.cell? ⟨b, off + i * 3 + 1, none⟩ = some (.int .u16 (u : Int)) := (HX.out.lo.cell (p := ⟨b, off + i * 3 + 1, none⟩) hbl).trans k1
          have z2 : wr.cell? ⟨b, off + i * 3 + 1 + 1, none⟩ = some (.int .i64 of) := (HX.out.lo.cell (p := ⟨b, off + i * 3 + 1 + 1, none⟩) hbl).trans k2
          simp only at hb1 hb2 hb3
          have j0 : (0 : Int) ≤ (i : Int) := by omega
          have HO := Lib.hid (Blk.new wr 64 #[.int .i64 kd, .int .u16 (u : Int), .int .i64 of])
          have HX6 := Lib.hid (HX.out.below ((Below.refl _ wr).alloc (Nat.le_refl _) (.cells #[.int .i64 kd, .int .u16 (u : Int), .int .i64 of] 64)))
          clear hcs k0 k1 k2 hX HX ho
          by_cases e0 : kd = 0
          · subst e0
            have pV := Lib.hid (HX6.out.adv (by omega) u hb1)
            clear HX6
            go_wp2_with fail
            refine pV.out.mono ?_
            rintro ee w7 ⟨hkeep, ⟨rfl, s', x', h7⟩ | ⟨rfl, s', x', h7⟩⟩
            · have H8 := Lib.hid h7
              clear h7 hkeep pV
              obtain ⟨fr, cc, su, hcc, i1, i2, i3, i4, pF, pC, pS⟩ := H8.out.check
              rw [HCF.out.2.2.2] at i1
              obtain ⟨va, vc, hva, -⟩ := (H8.out.l 0 (by omega)).slice
              obtain ⟨wa, wc', hwa, -⟩ := (H8.out.l 1 (by omega)).slice
              have d0 := H8.out.kn.cell 0
              have d1 := H8.out.kn.cell 1
              have q3 := H8.out.cfg.cell 3
              simp only [List.getElem?_toArray, List.getElem?_cons_zero, List.getElem?_cons_succ] at d0 d1 q3
              rw [HCF.out.2.2.2] at q3
              rw [hva] at d0
              rw [hwa] at d1
              generalize (S 0).length = n0 at *
              generalize (S 1).length = n1 at *
              have g1 : decide (cc + ah < fr) = false := by simp; omega
              have g2 : decide (fr < su) = false := by simp; omega
              have g3 : decide ((n0 : Int) < su) = false := by simp; omega
              have g4 : decide ((n1 : Int) < su) = false := by simp; omega
              have gw : IntKind.i64.wrap (cc + ah) = cc + ah := IntWalk.i64_in _ (by omega)
              have PF := Lib.hid pF
              have PC := Lib.hid pC
              have PS := Lib.hid pS
              clear pF pC pS i1 i2 i3 i4 hcc hva hwa
              go_upto_region 23 with fail
              go_quiet (first | (go_at_call 34; exact Calls.quiet_of_same (PF.out _)) | (go_at_call 35; exact Calls.quiet_of (PC.out _)) | (go_at_call 30; exact Calls.quiet_of (PS.out _)))
              have H9 := Lib.hid (H8.out.below (below_drewN (Below.refl _ _) nq))
              clear H8 PF PC PS d0 d1 q3
              go_wp2_with fail
              go_roundw
              case rel => exact ⟨i + 1, _, _, _, _, by omega, by go_num, H9.out⟩
              case measure => simp [intOf]; omega
            · rw [HCF.out.2.1] at h7
              have hO7 := hkeep _ _ HO.out
              have y1 := hO7.cell 1
              have y1' := (hO7.alloc (.cells #[.int .u16 (u : Int)] 33)).cell 1
              simp only [List.getElem?_toArray, List.getElem?_cons_zero, List.getElem?_cons_succ] at y1 y1'
              have q1 := h7.cfg.cell 1
              have q1' := (h7.cfg.alloc (.cells #[.int .u16 (u : Int)] 33)).cell 1
              simp only [List.getElem?_toArray, List.getElem?_cons_zero, List.getElem?_cons_succ] at q1 q1'
              rw [HCF.out.2.1] at q1 q1'
              have hS : (S 0).length ≤ 1000 := by
                have a := h7.j.kn 0 (by omega)
                rw [h7.ks 0 (by omega), upd_at, List.length_append] at a
                omega
              obtain ⟨a2, c2x, w8, hrun, hd8, hq8, v8, h8⟩ := h7.app (i := 0) (by omega) hS u 1
              have hrun' : (appI #[73, 73] 73 #[v 0, .slice (some ⟨w7.heap.size, 0, none⟩) 1 1]).run Try.prog (w7.alloc (.cells #[.int .u16 (u : Int)] 33)).drew = .ok (.slice a2 ((S 0).length + 1) c2x) w8 := hrun
              obtain ⟨va, vc, hva, -⟩ := (h7.l 0 (by omega)).slice
              obtain ⟨wa, wc', hwa, -⟩ := (h7.l 1 (by omega)).slice
              have d0 := h7.kn.cell 0
              have d1 := h7.kn.cell 1
              have e0' := (h7.kn.alloc (.cells #[.int .u16 (u : Int)] 33)).cell 0
              have e1' := (h7.kn.alloc (.cells #[.int .u16 (u : Int)] 33)).cell 1
              have g0 := hd8.cell 0
              have g1 := hd8.cell 1
              have q8 := hq8.cell 1
              simp only [List.getElem?_toArray, List.getElem?_cons_zero, List.getElem?_cons_succ] at d0 d1 e0' e1' g0 g1 q8
              rw [HCF.out.2.1] at q8
              rw [hva] at d0 e0' g0 hrun'
              rw [hwa] at d1 e1' g1
              have g0f := hd8.frozen 0
              have g1f := hd8.frozen 1
              have HH := Lib.hid h8
              have H8 := Lib.hid h8
              clear h7 h8 hd8 hkeep pV hO7 hrun hva hwa hq8
              go_upto_region 16 with fail
              go_region
              all_goals
                clear hrun' d0 d1 e0' e1' g0 g1 g0f g1f y1 y1' q1 q1' q8
                go_wp2_with fail
                obtain ⟨fr, cc, su, hcc, i1, i2, i3, i4, pF, pC, pS⟩ := H8.out.check
                rw [HCF.out.2.2.2] at i1
                obtain ⟨va, vc, hva, -⟩ := (H8.out.l 0 (by omega)).slice
                obtain ⟨wa, wc', hwa, -⟩ := (H8.out.l 1 (by omega)).slice
                have d0 := H8.out.kn.cell 0
                have d1 := H8.out.kn.cell 1
                have q3 := H8.out.cfg.cell 3
                simp only [List.getElem?_toArray, List.getElem?_cons_zero, List.getElem?_cons_succ] at d0 d1 q3
                rw [HCF.out.2.2.2] at q3
                rw [hva] at d0
                rw [hwa] at d1
                generalize (upd S 0 (S 0 ++ [u]) 0).length = n0 at *
                generalize (upd S 0 (S 0 ++ [u]) 1).length = n1 at *
                have g1 : decide (cc + ah < fr) = false := by simp; omega
                have g2 : decide (fr < su) = false := by simp; omega
                have g3 : decide ((n0 : Int) < su) = false := by simp; omega
                have g4 : decide ((n1 : Int) < su) = false := by simp; omega
                have gw : IntKind.i64.wrap (cc + ah) = cc + ah := IntWalk.i64_in _ (by omega)
                have PF := Lib.hid pF
                have PC := Lib.hid pC
                have PS := Lib.hid pS
                clear pF pC pS i1 i2 i3 i4 hcc hva hwa
                go_upto_region 23 with fail
                go_quiet (first | (go_at_call 34; exact Calls.quiet_of_same (PF.out _)) | (go_at_call 35; exact Calls.quiet_of (PC.out _)) | (go_at_call 30; exact Calls.quiet_of (PS.out _)))
                have H9 := Lib.hid (H8.out.below (below_drewN (Below.refl _ _) nq))
                clear H8 PF PC PS d0 d1 q3
                go_wp2_with fail
                go_roundw
                case rel => exact ⟨i + 1, _, _, _, _, by omega, by go_num, H9.out⟩
                case measure => simp [intOf]; omega
          by_cases e1 : kd = 1
          · subst e1
            clear e0
            have pV := Lib.hid (HX6.out.rem (by omega) u hb1)
            clear HX6
            go_wp2_with fail
            refine pV.out.mono ?_
            rintro ee w7 ⟨hkeep, ⟨z, rfl⟩, s', x', h7⟩
            rw [HCF.out.2.1, show 1 - 0 = 1 from rfl] at h7
            have hO7 := hkeep _ _ HO.out
            have y1 := hO7.cell 1
            have y1' := (hO7.alloc (.cells #[.int .u16 (u : Int)] 33)).cell 1
            simp only [List.getElem?_toArray, List.getElem?_cons_zero, List.getElem?_cons_succ] at y1 y1'
            have q1 := h7.cfg.cell 1
            have q1' := (h7.cfg.alloc (.cells #[.int .u16 (u : Int)] 33)).cell 1
            simp only [List.getElem?_toArray, List.getElem?_cons_zero, List.getElem?_cons_succ] at q1 q1'
            rw [HCF.out.2.1] at q1 q1'
            have hS : (S 1).length ≤ 1000 := by
              have a := h7.j.kn 1 (by omega)
              rw [h7.ks 1 (by omega), upd_at, List.length_append] at a
              omega
            obtain ⟨a2, c2x, w8, hrun, hd8, hq8, v8, h8⟩ := h7.app (i := 1) (by omega) hS u 1
            have hrun' : (appI #[73, 73] 73 #[v 1, .slice (some ⟨w7.heap.size, 0, none⟩) 1 1]).run Try.prog (w7.alloc (.cells #[.int .u16 (u : Int)] 33)).drew = .ok (.slice a2 ((S 1).length + 1) c2x) w8 := hrun
            obtain ⟨va, vc, hva, -⟩ := (h7.l 0 (by omega)).slice
            obtain ⟨wa, wc', hwa, -⟩ := (h7.l 1 (by omega)).slice
            have d0 := h7.kn.cell 0
            have d1 := h7.kn.cell 1
            have e0' := (h7.kn.alloc (.cells #[.int .u16 (u : Int)] 33)).cell 0
            have e1' := (h7.kn.alloc (.cells #[.int .u16 (u : Int)] 33)).cell 1
            have g0 := hd8.cell 0
            have g1 := hd8.cell 1
            have q8 := hq8.cell 1
            simp only [List.getElem?_toArray, List.getElem?_cons_zero, List.getElem?_cons_succ] at d0 d1 e0' e1' g0 g1 q8
            rw [HCF.out.2.1] at q8
            rw [hva] at d0 e0' g0
            rw [hwa] at d1 e1' g1 hrun'
            have g0f := hd8.frozen 0
            have g1f := hd8.frozen 1
            have HH := Lib.hid h8
            have H8 := Lib.hid h8
            clear h7 h8 hd8 hkeep pV hO7 hrun hva hwa hq8
            go_upto_region 20 with fail
            go_region
            all_goals
              clear hrun' d0 d1 e0' e1' g0 g1 g0f g1f y1 y1' q1 q1' q8
              go_wp2_with fail
              obtain ⟨fr, cc, su, hcc, i1, i2, i3, i4, pF, pC, pS⟩ := H8.out.check
              rw [HCF.out.2.2.2] at i1
              obtain ⟨va, vc, hva, -⟩ := (H8.out.l 0 (by omega)).slice
              obtain ⟨wa, wc', hwa, -⟩ := (H8.out.l 1 (by omega)).slice
              have d0 := H8.out.kn.cell 0
              have d1 := H8.out.kn.cell 1
              have q3 := H8.out.cfg.cell 3
              simp only [List.getElem?_toArray, List.getElem?_cons_zero, List.getElem?_cons_succ] at d0 d1 q3
              rw [HCF.out.2.2.2] at q3
              rw [hva] at d0
              rw [hwa] at d1
              generalize (upd S 1 (S 1 ++ [u]) 0).length = n0 at *
              generalize (upd S 1 (S 1 ++ [u]) 1).length = n1 at *
              have g1 : decide (cc + ah < fr) = false := by simp; omega
              have g2 : decide (fr < su) = false := by simp; omega
              have g3 : decide ((n0 : Int) < su) = false := by simp; omega
              have g4 : decide ((n1 : Int) < su) = false := by simp; omega
              have gw : IntKind.i64.wrap (cc + ah) = cc + ah := IntWalk.i64_in _ (by omega)
              have PF := Lib.hid pF
              have PC := Lib.hid pC
              have PS := Lib.hid pS
              clear pF pC pS i1 i2 i3 i4 hcc hva hwa
              go_upto_region 23 with fail
              go_quiet (first | (go_at_call 34; exact Calls.quiet_of_same (PF.out _)) | (go_at_call 35; exact Calls.quiet_of (PC.out _)) | (go_at_call 30; exact Calls.quiet_of (PS.out _)))
              have H9 := Lib.hid (H8.out.below (below_drewN (Below.refl _ _) nq))
              clear H8 PF PC PS d0 d1 q3
              go_wp2_with fail
              go_roundw
              case rel => exact ⟨i + 1, _, _, _, _, by omega, by go_num, H9.out⟩
              case measure => simp [intOf]; omega
          by_cases e2 : kd = 2
          · subst e2
            clear e0 e1
            have pV := Lib.hid (HX6.out.fix (by omega))
            clear HX6
            go_wp2_with fail
            refine pV.out.mono ?_
            rintro ee w7 ⟨⟨z, rfl⟩, s', x', h7⟩
            have H8 := Lib.hid h7
            clear h7 pV
            obtain ⟨fr, cc, su, hcc, i1, i2, i3, i4, pF, pC, pS⟩ := H8.out.check
            rw [HCF.out.2.2.2] at i1
            obtain ⟨va, vc, hva, -⟩ := (H8.out.l 0 (by omega)).slice
            obtain ⟨wa, wc', hwa, -⟩ := (H8.out.l 1 (by omega)).slice
            have d0 := H8.out.kn.cell 0
            have d1 := H8.out.kn.cell 1
            have q3 := H8.out.cfg.cell 3
            simp only [List.getElem?_toArray, List.getElem?_cons_zero, List.getElem?_cons_succ] at d0 d1 q3
            rw [HCF.out.2.2.2] at q3
            rw [hva] at d0
            rw [hwa] at d1
            generalize (S 0).length = n0 at *
            generalize (S 1).length = n1 at *
            have g1 : decide (cc + ah < fr) = false := by simp; omega
            have g2 : decide (fr < su) = false := by simp; omega
            have g3 : decide ((n0 : Int) < su) = false := by simp; omega
            have g4 : decide ((n1 : Int) < su) = false := by simp; omega
            have gw : IntKind.i64.wrap (cc + ah) = cc + ah := IntWalk.i64_in _ (by omega)
            have PF := Lib.hid pF
            have PC := Lib.hid pC
            have PS := Lib.hid pS
            clear pF pC pS i1 i2 i3 i4 hcc hva hwa
            go_upto_region 23 with fail
            go_quiet (first | (go_at_call 34; exact Calls.quiet_of_same (PF.out _)) | (go_at_call 35; exact Calls.quiet_of (PC.out _)) | (go_at_call 30; exact Calls.quiet_of (PS.out _)))
            have H9 := Lib.hid (H8.out.below (below_drewN (Below.refl _ _) nq))
            clear H8 PF PC PS d0 d1 q3
            go_wp2_with fail
            go_roundw
            case rel => exact ⟨i + 1, _, _, _, _, by omega, by go_num, H9.out⟩
            case measure => simp [intOf]; omega
          have H8 := Lib.hid HX6.out.up
          clear HX6
          obtain ⟨fr, cc, su, hcc, i1, i2, i3, i4, pF, pC, pS⟩ := H8.out.check
          rw [HCF.out.2.2.2] at i1
          obtain ⟨va, vc, hva, -⟩ := (H8.out.l 0 (by omega)).slice
          obtain ⟨wa, wc', hwa, -⟩ := (H8.out.l 1 (by omega)).slice
          have d0 := H8.out.kn.cell 0
          have d1 := H8.out.kn.cell 1
          have q3 := H8.out.cfg.cell 3
          simp only [List.getElem?_toArray, List.getElem?_cons_zero, List.getElem?_cons_succ] at d0 d1 q3
          rw [HCF.out.2.2.2] at q3
          rw [hva] at d0
          rw [hwa] at d1
          generalize (S 0).length = n0 at *
          generalize (S 1).length = n1 at *
          have g1 : decide (cc + ah < fr) = false := by simp; omega
          have g2 : decide (fr < su) = false := by simp; omega
          have g3 : decide ((n0 : Int) < su) = false := by simp; omega
          have g4 : decide ((n1 : Int) < su) = false := by simp; omega
          have gw : IntKind.i64.wrap (cc + ah) = cc + ah := IntWalk.i64_in _ (by omega)
          have PF := Lib.hid pF
          have PC := Lib.hid pC
          have PS := Lib.hid pS
          clear pF pC pS i1 i2 i3 i4 hcc hva hwa
          go_upto_region 23 with fail
          go_quiet (first | (go_at_call 34; exact Calls.quiet_of_same (PF.out _)) | (go_at_call 35; exact Calls.quiet_of (PC.out _)) | (go_at_call 30; exact Calls.quiet_of (PS.out _)))
          have H9 := Lib.hid (H8.out.below (below_drewN (Below.refl _ _) nq))
          clear H8 PF PC PS d0 d1 q3
          go_wp2_with fail
          go_roundw
          case rel => exact ⟨i + 1, _, _, _, _, by omega, by go_num, H9.out⟩
          case measure => simp [intOf]; omega
        · obtain rfl : i = 60 := by omega
          rw [show ((60 : Nat) : Int) = 60 from rfl] at c1' c1'' ⊢
          clear hX
          have q0 := HX.out.cfg.cell 0
          simp only [List.getElem?_toArray, List.getElem?_cons_zero, List.getElem?_cons_succ] at q0
          obtain ⟨D, LD⟩ := let_of (newF (cf.sd : Int))
          have hsd2 := HX.out.j.sd
          have pN := Lib.hid (show ∀ W, Calls Try.prog 36 #[.int .u32 (cf.sd : Int)] W fun e w' => e = .returned (.agg D.toList.toArray) ∧ Below W.heap.size W w' from fun W => by
            have := rnew_any W (cf.sd : Int) (by omega) (by omega)
            unfold stV at this
            rw [← LD.eq] at this
            rw [Array.toArray_toList]
            exact this)
          have HSN := Lib.hid (fun w1 => storeNew w1 LD)
          have HLD := Lib.hid LD
          obtain ⟨L0, hL0⟩ : ∃ L0, D.toList = L0 := ⟨_, rfl⟩
          have hDL : D = L0.toArray := by rw [← hL0, Array.toArray_toList]
          rw [hL0] at pN
          rw [hDL] at HLD
          have HSN2 := Lib.hid (show ∀ w1, ∃ W3, storeR Try.prog 53 (.pointer (some ⟨w1.heap.size, 0, none⟩)) (.agg L0.toArray) (w1.alloc (.cells Try.zeroCells53 53)) = .ok .skip W3 ∧ Blk W3 w1.heap.size 53 L0.toArray ∧ Below w1.heap.size w1 W3 from fun w1 => by
            rw [← hDL]
            exact storeNewB w1 LD)
          clear LD HSN hL0 hDL hsd2
          go_wp2_with fail
          (try simp only [Bool.or_false, Bool.and_true, Bool.or_self, Bool.and_self, Bool.true_and, Bool.false_or])
          refine (pN.out _).mono ?_
          rintro e w5 ⟨rfl, b5⟩
          obtain ⟨W6, hst6, hB6, b6⟩ := HSN2.out w5
          have HV0 := Lib.hid (show SV w W6 cf g d w5.heap.size s x v S 60 0 L0 from ⟨HX.out.below (b5.trans (b6.mono b5.size)), hB6, Nat.le_trans HX.out.lo.size b5.size, _, HLD.out, fun _ => rfl⟩)
          clear HX hB6 b6 b5 HSN2 HLD q0 pN
          obtain ⟨k, hk⟩ : ∃ k, w5.heap.size = k := ⟨_, rfl⟩
          rw [hk] at HV0 hst6
          go_wp2_with fail
          clear hst6 hk
          obtain ⟨i0, hi0⟩ : ∃ i0 : Nat, i0 = 60 := ⟨_, rfl⟩
          rw [← hi0] at HV0
          clear hi0
          go_loopw [13] (fun nv wq => ∃ (n : Nat) (L : List Value), n ≤ 200 ∧ nv = .int .i64 (n : Int) ∧ SV w wq cf g d k s x v S i0 n L) (fun nv _ => 1000 - (intOf nv).toNat)
          case atStart => exact ⟨0, L0, by omega, rfl, HV0.out⟩
          case round =>
            clear HV0
            obtain ⟨n, L, hn, rfl, hV⟩ := hrel
            have HV := Lib.hid hV
            have hS := hV.sure
            have hsu := (sureH_le x).1
            have hun := hV.su.j.un
            obtain ⟨su, hsue⟩ : ∃ su, sureH x = su := ⟨_, rfl⟩
            by_cases hns : (n : Int) ≤ su
            · obtain ⟨L2, code, hcode, ⟨f2, LC2⟩, heq, hAt⟩ := hV.at (by omega)
              have HN := Lib.hid (fun (h : (n : Int) < su) => hV.next (by omega))
              rw [hsue] at hS hsu
              have PS := Lib.hid hS
              have PA := Lib.hid hAt
              have HC := Lib.hid hcode
              have HL2 := Lib.hid LC2
              have n200 : n + 1 ≤ 200 := by omega
              have hsf := Lib.hid hsue
              clear hV hS hAt hcode LC2 hsu hun hsue
              go_wp2_with fail
              refine (PS.out 0).mono ?_
              rintro e w7 ⟨rfl, n1, rfl⟩
              go_wp2_with fail
              refine (PA.out _ (below_drewN (Below.refl _ _) _)).mono ?_
              rintro e w8 ⟨rfl, b8⟩
              obtain ⟨W9, hst9, hB9, b9⟩ := storeNewB w8 HL2.out
              have hbb := ((below_drewN (Below.refl _ wr) n1).trans (b8.mono (Nat.le_refl _))).trans (b9.mono b8.size)
              have HV9 := Lib.hid (HV.out.below hbb)
              have HB9 := Lib.hid hbb
              have r12 := HV9.out.row
              have r14 : rowIn W9 w8.heap.size 0 66 = some L2 := by
                refine rowIn_of (fun j u hu => ?_) (by have := HL2.out.size; simpa using this)
                rw [Nat.zero_add, hB9.cell j]
                simpa using hu
              have PS9 := Lib.hid HV9.out.sure
              have hg33 := guard33
              clear HV PS PA b8 b9 hB9 hbb
              rw [hsf.out] at PS9
              rcases HC.out with ⟨rfl, hLL⟩ | rfl
              · obtain rfl : L = L2 := hLL.symm
                go_wp2_with fail
                refine (PS9.out 0).mono ?_
                rintro e w10 ⟨rfl, n2, hw10⟩
                obtain rfl : w10 = W9.drewN n2 := hw10
                by_cases hlt : (n : Int) < su
                · obtain ⟨L3, ⟨hl0, hl1⟩, pT, hST⟩ := HN.out hlt
                  have PT := Lib.hid pT
                  have ST := Lib.hid hST
                  have hVV := HV9.out.below (below_drewN (Below.refl _ W9) n2)
                  have HBV := Lib.hid (HB9.out.trans ((below_drewN (Below.refl _ W9) n2).mono HB9.out.size))
                  generalize W9.drewN n2 = V at *
                  obtain ⟨va, vc, hva, hvat⟩ := sent_at2 (hVV.su.l 0 (by omega))
                  obtain ⟨wa, wc', hwa, hwat⟩ := sent_at2 (hVV.su.l 1 (by omega))
                  obtain ⟨ga, rfl, hga, cga⟩ := hvat n hl0
                  obtain ⟨gb, rfl, hgb, cgb⟩ := hwat n hl1
                  have d0 := hVV.su.kn.cell 0
                  have d1 := hVV.su.kn.cell 1
                  simp only [List.getElem?_toArray, List.getElem?_cons_zero, List.getElem?_cons_succ] at d0 d1
                  rw [hva] at d0
                  rw [hwa] at d1
                  have rV : rowIn V.drew k 0 66 = some L := hVV.row
                  have rV0 : rowIn V k 0 66 = some L := hVV.row
                  have nn0 : (0 : Int) ≤ (n : Int) := by omega
                  have nl0 : (n : Int) < ((S 0).length : Int) := by omega
                  have nl1 : (n : Int) < ((S 1).length : Int) := by omega
                  generalize (S 0).getD n 0 = in0 at *
                  generalize (S 1).getD n 0 = in1 at *
                  generalize (S 0).length = len0 at *
                  generalize (S 1).length = len1 at *
                  have HVX := Lib.hid hVV
                  clear hVV pT hST HN hvat hwat hva hwa hga hgb hst9 r12 r14 PS9 HV9 HB9 HC heq
                  have hV2 := HVX.out.blk
                  have hifL : (Try.prog.info? 53).map (·.size) = some L.toArray.size := by obtain ⟨f, LC, -⟩ := HVX.out.st; exact LC.info
                  go_upto_region 33 with fail
                  refine wp_region_still_tail 12 (by kernel_rfl) (by kernel_rfl) ?_
                  simp only [List.take_succ_cons, List.take_zero, List.drop_succ_cons, List.drop_zero]
                  refine wpStill_load_blk (by rfl) 53 _ (by rfl) k (by rfl) _ L.toArray _ hV2.drew Try.underlying53 (by rfl) hifL ?_
                  repeat still_step
                  refine wpStill_nil ?_
                  change wpList _ _ _ _ _ (World.drew _)
                  go_wp2_with fail
                  refine (PT.out _).mono ?_
                  rintro e w11 ⟨rfl, h11⟩
                  obtain ⟨w12, hst12, hV12⟩ := ST.out w11 (HBV.out.trans ⟨h11.os, h11.tape, h11.output, h11.size, fun kk hkk => h11.block kk (Nat.lt_of_lt_of_le hkk HBV.out.size)⟩)
                  have HV12 := Lib.hid hV12
                  clear hV12
                  iterate 1
                    go_wp2_with fail
                    go_roundw
                    case rel => exact ⟨n + 1, L3, n200, by go_num, HV12.out⟩
                    case measure => simp [intOf]; omega
                · have HSK := Lib.hid ((HV9.out.below (below_drewN (Below.refl _ W9) n2)).skip (by rw [hsf.out]; exact hlt))
                  clear HN HV9 HB9 PS9 hst9 r12 r14 HC heq
                  go_wp2_with fail
                  go_roundw
                  case rel => exact ⟨n + 1, L, n200, by go_num, HSK.out⟩
                  case measure => simp [intOf]; omega
              · go_wp2_with fail
                refine (PS9.out 0).mono ?_
                rintro e w10 ⟨rfl, n2, hw10⟩
                obtain rfl : w10 = W9.drewN n2 := hw10
                by_cases hlt : (n : Int) < su
                · obtain ⟨L3, ⟨hl0, hl1⟩, pT, hST⟩ := HN.out hlt
                  have PT := Lib.hid pT
                  have ST := Lib.hid hST
                  have hVV := HV9.out.below (below_drewN (Below.refl _ W9) n2)
                  have HBV := Lib.hid (HB9.out.trans ((below_drewN (Below.refl _ W9) n2).mono HB9.out.size))
                  generalize W9.drewN n2 = V at *
                  obtain ⟨va, vc, hva, hvat⟩ := sent_at2 (hVV.su.l 0 (by omega))
                  obtain ⟨wa, wc', hwa, hwat⟩ := sent_at2 (hVV.su.l 1 (by omega))
                  obtain ⟨ga, rfl, hga, cga⟩ := hvat n hl0
                  obtain ⟨gb, rfl, hgb, cgb⟩ := hwat n hl1
                  have d0 := hVV.su.kn.cell 0
                  have d1 := hVV.su.kn.cell 1
                  simp only [List.getElem?_toArray, List.getElem?_cons_zero, List.getElem?_cons_succ] at d0 d1
                  rw [hva] at d0
                  rw [hwa] at d1
                  have rV : rowIn V.drew k 0 66 = some L := hVV.row
                  have rV0 : rowIn V k 0 66 = some L := hVV.row
                  have nn0 : (0 : Int) ≤ (n : Int) := by omega
                  have nl0 : (n : Int) < ((S 0).length : Int) := by omega
                  have nl1 : (n : Int) < ((S 1).length : Int) := by omega
                  generalize (S 0).getD n 0 = in0 at *
                  generalize (S 1).getD n 0 = in1 at *
                  generalize (S 0).length = len0 at *
                  generalize (S 1).length = len1 at *
                  have HVX := Lib.hid hVV
                  clear hVV pT hST HN hvat hwat hva hwa hga hgb hst9 r12 r14 PS9 HV9 HB9 HC heq
                  have hV2 := HVX.out.blk
                  have hifL : (Try.prog.info? 53).map (·.size) = some L.toArray.size := by obtain ⟨f, LC, -⟩ := HVX.out.st; exact LC.info
                  go_upto_region 33 with fail
                  refine wp_region_still_tail 12 (by kernel_rfl) (by kernel_rfl) ?_
                  simp only [List.take_succ_cons, List.take_zero, List.drop_succ_cons, List.drop_zero]
                  refine wpStill_load_blk (by rfl) 53 _ (by rfl) k (by rfl) _ L.toArray _ hV2.drew Try.underlying53 (by rfl) hifL ?_
                  repeat still_step
                  refine wpStill_nil ?_
                  change wpList _ _ _ _ _ (World.drew _)
                  go_wp2_with fail
                  refine (PT.out _).mono ?_
                  rintro e w11 ⟨rfl, h11⟩
                  obtain ⟨w12, hst12, hV12⟩ := ST.out w11 (HBV.out.trans ⟨h11.os, h11.tape, h11.output, h11.size, fun kk hkk => h11.block kk (Nat.lt_of_lt_of_le hkk HBV.out.size)⟩)
                  have HV12 := Lib.hid hV12
                  clear hV12
                  iterate 1
                    go_wp2_with fail
                    go_roundw
                    case rel => exact ⟨n + 1, L3, n200, by go_num, HV12.out⟩
                    case measure => simp [intOf]; omega
                · have HSK := Lib.hid ((HV9.out.below (below_drewN (Below.refl _ W9) n2)).skip (by rw [hsf.out]; exact hlt))
                  clear HN HV9 HB9 PS9 hst9 r12 r14 HC heq
                  go_wp2_with fail
                  go_roundw
                  case rel => exact ⟨n + 1, L, n200, by go_num, HSK.out⟩
                  case measure => simp [intOf]; omega
            · rw [hsue] at hS
              have PS := Lib.hid hS
              have HLO := Lib.hid hV.su.lo
              clear hV hS HV hsu hun hsue
              go_wp2_with fail
              refine (PS.out 0).mono ?_
              rintro e w7 ⟨rfl, n1, rfl⟩
              go_wp2_with fail
              go_ret
              exact ⟨rfl, below_drewN HLO.out _⟩
      · obtain ⟨c1', c1''⟩ : ¬ (i : Int) < (l : Int) ∧ decide ((i : Int) < (l : Int)) = false := ⟨by omega, by simp; omega⟩
        clear hX
        have q0 := HX.out.cfg.cell 0
        simp only [List.getElem?_toArray, List.getElem?_cons_zero, List.getElem?_cons_succ] at q0
        obtain ⟨D, LD⟩ := let_of (newF (cf.sd : Int))
        have hsd2 := HX.out.j.sd
        have pN := Lib.hid (show ∀ W, Calls Try.prog 36 #[.int .u32 (cf.sd : Int)] W fun e w' => e = .returned (.agg D.toList.toArray) ∧ Below W.heap.size W w' from fun W => by
          have := rnew_any W (cf.sd : Int) (by omega) (by omega)
          unfold stV at this
          rw [← LD.eq] at this
          rw [Array.toArray_toList]
          exact this)
        have HSN := Lib.hid (fun w1 => storeNew w1 LD)
        have HLD := Lib.hid LD
        obtain ⟨L0, hL0⟩ : ∃ L0, D.toList = L0 := ⟨_, rfl⟩
        have hDL : D = L0.toArray := by rw [← hL0, Array.toArray_toList]
        rw [hL0] at pN
        rw [hDL] at HLD
        have HSN2 := Lib.hid (show ∀ w1, ∃ W3, storeR Try.prog 53 (.pointer (some ⟨w1.heap.size, 0, none⟩)) (.agg L0.toArray) (w1.alloc (.cells Try.zeroCells53 53)) = .ok .skip W3 ∧ Blk W3 w1.heap.size 53 L0.toArray ∧ Below w1.heap.size w1 W3 from fun w1 => by
          rw [← hDL]
          exact storeNewB w1 LD)
        clear LD HSN hL0 hDL hsd2
        go_wp2_with fail
        (try simp only [Bool.or_false, Bool.and_true, Bool.or_self, Bool.and_self, Bool.true_and, Bool.false_or])
        refine (pN.out _).mono ?_
        rintro e w5 ⟨rfl, b5⟩
        obtain ⟨W6, hst6, hB6, b6⟩ := HSN2.out w5
        have HV0 := Lib.hid (show SV w W6 cf g d w5.heap.size s x v S i 0 L0 from ⟨HX.out.below (b5.trans (b6.mono b5.size)), hB6, Nat.le_trans HX.out.lo.size b5.size, _, HLD.out, fun _ => rfl⟩)
        clear HX hB6 b6 b5 HSN2 HLD q0 pN
        obtain ⟨k, hk⟩ : ∃ k, w5.heap.size = k := ⟨_, rfl⟩
        rw [hk] at HV0 hst6
        go_wp2_with fail
        clear hst6 hk
        obtain ⟨i0, hi0⟩ : ∃ i0 : Nat, i0 = i := ⟨_, rfl⟩
        rw [← hi0] at HV0
        clear hi0
        go_loopw [13] (fun nv wq => ∃ (n : Nat) (L : List Value), n ≤ 200 ∧ nv = .int .i64 (n : Int) ∧ SV w wq cf g d k s x v S i0 n L) (fun nv _ => 1000 - (intOf nv).toNat)
        case atStart => exact ⟨0, L0, by omega, rfl, HV0.out⟩
        case round =>
          clear HV0
          obtain ⟨n, L, hn, rfl, hV⟩ := hrel
          have HV := Lib.hid hV
          have hS := hV.sure
          have hsu := (sureH_le x).1
          have hun := hV.su.j.un
          obtain ⟨su, hsue⟩ : ∃ su, sureH x = su := ⟨_, rfl⟩
          by_cases hns : (n : Int) ≤ su
          · obtain ⟨L2, code, hcode, ⟨f2, LC2⟩, heq, hAt⟩ := hV.at (by omega)
            have HN := Lib.hid (fun (h : (n : Int) < su) => hV.next (by omega))
            rw [hsue] at hS hsu
            have PS := Lib.hid hS
            have PA := Lib.hid hAt
            have HC := Lib.hid hcode
            have HL2 := Lib.hid LC2
            have n200 : n + 1 ≤ 200 := by omega
            have hsf := Lib.hid hsue
            clear hV hS hAt hcode LC2 hsu hun hsue
            go_wp2_with fail
            refine (PS.out 0).mono ?_
            rintro e w7 ⟨rfl, n1, rfl⟩
            go_wp2_with fail
            refine (PA.out _ (below_drewN (Below.refl _ _) _)).mono ?_
            rintro e w8 ⟨rfl, b8⟩
            obtain ⟨W9, hst9, hB9, b9⟩ := storeNewB w8 HL2.out
            have hbb := ((below_drewN (Below.refl _ wr) n1).trans (b8.mono (Nat.le_refl _))).trans (b9.mono b8.size)
            have HV9 := Lib.hid (HV.out.below hbb)
            have HB9 := Lib.hid hbb
            have r12 := HV9.out.row
            have r14 : rowIn W9 w8.heap.size 0 66 = some L2 := by
              refine rowIn_of (fun j u hu => ?_) (by have := HL2.out.size; simpa using this)
              rw [Nat.zero_add, hB9.cell j]
              simpa using hu
            have PS9 := Lib.hid HV9.out.sure
            have hg33 := guard33
            clear HV PS PA b8 b9 hB9 hbb
            rw [hsf.out] at PS9
            rcases HC.out with ⟨rfl, hLL⟩ | rfl
            · obtain rfl : L = L2 := hLL.symm
              go_wp2_with fail
              refine (PS9.out 0).mono ?_
              rintro e w10 ⟨rfl, n2, hw10⟩
              obtain rfl : w10 = W9.drewN n2 := hw10
              by_cases hlt : (n : Int) < su
              · obtain ⟨L3, ⟨hl0, hl1⟩, pT, hST⟩ := HN.out hlt
                have PT := Lib.hid pT
                have ST := Lib.hid hST
                have hVV := HV9.out.below (below_drewN (Below.refl _ W9) n2)
                have HBV := Lib.hid (HB9.out.trans ((below_drewN (Below.refl _ W9) n2).mono HB9.out.size))
                generalize W9.drewN n2 = V at *
                obtain ⟨va, vc, hva, hvat⟩ := sent_at2 (hVV.su.l 0 (by omega))
                obtain ⟨wa, wc', hwa, hwat⟩ := sent_at2 (hVV.su.l 1 (by omega))
                obtain ⟨ga, rfl, hga, cga⟩ := hvat n hl0
                obtain ⟨gb, rfl, hgb, cgb⟩ := hwat n hl1
                have d0 := hVV.su.kn.cell 0
                have d1 := hVV.su.kn.cell 1
                simp only [List.getElem?_toArray, List.getElem?_cons_zero, List.getElem?_cons_succ] at d0 d1
                rw [hva] at d0
                rw [hwa] at d1
                have rV : rowIn V.drew k 0 66 = some L := hVV.row
                have rV0 : rowIn V k 0 66 = some L := hVV.row
                have nn0 : (0 : Int) ≤ (n : Int) := by omega
                have nl0 : (n : Int) < ((S 0).length : Int) := by omega
                have nl1 : (n : Int) < ((S 1).length : Int) := by omega
                generalize (S 0).getD n 0 = in0 at *
                generalize (S 1).getD n 0 = in1 at *
                generalize (S 0).length = len0 at *
                generalize (S 1).length = len1 at *
                have HVX := Lib.hid hVV
                clear hVV pT hST HN hvat hwat hva hwa hga hgb hst9 r12 r14 PS9 HV9 HB9 HC heq
                have hV2 := HVX.out.blk
                have hifL : (Try.prog.info? 53).map (·.size) = some L.toArray.size := by obtain ⟨f, LC, -⟩ := HVX.out.st; exact LC.info
                go_upto_region 33 with fail
                refine wp_region_still_tail 12 (by kernel_rfl) (by kernel_rfl) ?_
                simp only [List.take_succ_cons, List.take_zero, List.drop_succ_cons, List.drop_zero]
                refine wpStill_load_blk (by rfl) 53 _ (by rfl) k (by rfl) _ L.toArray _ hV2.drew Try.underlying53 (by rfl) hifL ?_
                repeat still_step
                refine wpStill_nil ?_
                change wpList _ _ _ _ _ (World.drew _)
                go_wp2_with fail
                refine (PT.out _).mono ?_
                rintro e w11 ⟨rfl, h11⟩
                obtain ⟨w12, hst12, hV12⟩ := ST.out w11 (HBV.out.trans ⟨h11.os, h11.tape, h11.output, h11.size, fun kk hkk => h11.block kk (Nat.lt_of_lt_of_le hkk HBV.out.size)⟩)
                have HV12 := Lib.hid hV12
                clear hV12
                iterate 1
                  go_wp2_with fail
                  go_roundw
                  case rel => exact ⟨n + 1, L3, n200, by go_num, HV12.out⟩
                  case measure => simp [intOf]; omega
              · have HSK := Lib.hid ((HV9.out.below (below_drewN (Below.refl _ W9) n2)).skip (by rw [hsf.out]; exact hlt))
                clear HN HV9 HB9 PS9 hst9 r12 r14 HC heq
                go_wp2_with fail
                go_roundw
                case rel => exact ⟨n + 1, L, n200, by go_num, HSK.out⟩
                case measure => simp [intOf]; omega
            · go_wp2_with fail
              refine (PS9.out 0).mono ?_
              rintro e w10 ⟨rfl, n2, hw10⟩
              obtain rfl : w10 = W9.drewN n2 := hw10
              by_cases hlt : (n : Int) < su
              · obtain ⟨L3, ⟨hl0, hl1⟩, pT, hST⟩ := HN.out hlt
                have PT := Lib.hid pT
                have ST := Lib.hid hST
                have hVV := HV9.out.below (below_drewN (Below.refl _ W9) n2)
                have HBV := Lib.hid (HB9.out.trans ((below_drewN (Below.refl _ W9) n2).mono HB9.out.size))
                generalize W9.drewN n2 = V at *
                obtain ⟨va, vc, hva, hvat⟩ := sent_at2 (hVV.su.l 0 (by omega))
                obtain ⟨wa, wc', hwa, hwat⟩ := sent_at2 (hVV.su.l 1 (by omega))
                obtain ⟨ga, rfl, hga, cga⟩ := hvat n hl0
                obtain ⟨gb, rfl, hgb, cgb⟩ := hwat n hl1
                have d0 := hVV.su.kn.cell 0
                have d1 := hVV.su.kn.cell 1
                simp only [List.getElem?_toArray, List.getElem?_cons_zero, List.getElem?_cons_succ] at d0 d1
                rw [hva] at d0
                rw [hwa] at d1
                have rV : rowIn V.drew k 0 66 = some L := hVV.row
                have rV0 : rowIn V k 0 66 = some L := hVV.row
                have nn0 : (0 : Int) ≤ (n : Int) := by omega
                have nl0 : (n : Int) < ((S 0).length : Int) := by omega
                have nl1 : (n : Int) < ((S 1).length : Int) := by omega
                generalize (S 0).getD n 0 = in0 at *
                generalize (S 1).getD n 0 = in1 at *
                generalize (S 0).length = len0 at *
                generalize (S 1).length = len1 at *
                have HVX := Lib.hid hVV
                clear hVV pT hST HN hvat hwat hva hwa hga hgb hst9 r12 r14 PS9 HV9 HB9 HC heq
                have hV2 := HVX.out.blk
                have hifL : (Try.prog.info? 53).map (·.size) = some L.toArray.size := by obtain ⟨f, LC, -⟩ := HVX.out.st; exact LC.info
                go_upto_region 33 with fail
                refine wp_region_still_tail 12 (by kernel_rfl) (by kernel_rfl) ?_
                simp only [List.take_succ_cons, List.take_zero, List.drop_succ_cons, List.drop_zero]
                refine wpStill_load_blk (by rfl) 53 _ (by rfl) k (by rfl) _ L.toArray _ hV2.drew Try.underlying53 (by rfl) hifL ?_
                repeat still_step
                refine wpStill_nil ?_
                change wpList _ _ _ _ _ (World.drew _)
                go_wp2_with fail
                refine (PT.out _).mono ?_
                rintro e w11 ⟨rfl, h11⟩
                obtain ⟨w12, hst12, hV12⟩ := ST.out w11 (HBV.out.trans ⟨h11.os, h11.tape, h11.output, h11.size, fun kk hkk => h11.block kk (Nat.lt_of_lt_of_le hkk HBV.out.size)⟩)
                have HV12 := Lib.hid hV12
                clear hV12
                iterate 1
                  go_wp2_with fail
                  go_roundw
                  case rel => exact ⟨n + 1, L3, n200, by go_num, HV12.out⟩
                  case measure => simp [intOf]; omega
              · have HSK := Lib.hid ((HV9.out.below (below_drewN (Below.refl _ W9) n2)).skip (by rw [hsf.out]; exact hlt))
                clear HN HV9 HB9 PS9 hst9 r12 r14 HC heq
                go_wp2_with fail
                go_roundw
                case rel => exact ⟨n + 1, L, n200, by go_num, HSK.out⟩
                case measure => simp [intOf]; omega
          · rw [hsue] at hS
            have PS := Lib.hid hS
            have HLO := Lib.hid hV.su.lo
            clear hV hS HV hsu hun hsue
            go_wp2_with fail
            refine (PS.out 0).mono ?_
            rintro e w7 ⟨rfl, n1, rfl⟩
            go_wp2_with fail
            go_ret
            exact ⟨rfl, below_drewN HLO.out _⟩
end

section
attribute [local go_sem ↓] append_I exec33 exec_st33
attribute [local go_sem] loadE33 loadI_some rowIn_drew
set_option maxRecDepth 100000 in
set_option maxHeartbeats 16000000 in
theorem sure_in1 (w : World) (sd dn : Nat) (ah : Int) (hsd : sd < 4294967296) (hde : dn ≤ 8) (hah : 1 ≤ ah ∧ ah ≤ 16) (a : Option Addr) (c : Nat) (ops : List (Int × Nat × Int)) (hops : ROps w a ops) (hlen : ops.length ≤ 9223372036854775807) :
    Calls Try.prog 5 #[.agg #[.int .u32 (sd : Int), .int .i64 1, .int .i64 (dn : Int), .int .i64 ah], .slice a ops.length c] w fun e w' => e = .returned (.bool true) ∧ Below w.heap.size w w' := by
  have pA := Lib.hid (fun W => awake25 W)
  have pR := Lib.hid (show ∀ W, Calls Try.prog 33 #[.agg #[.int .u32 (sd : Int), .int .i64 1, .int .i64 (dn : Int), .int .i64 ah]] W fun e w' => e = .returned (.bool true) ∧ Below W.heap.size W w' from fun W => by
    have := right_law W sd 1 (dn : Int) ah
    rw [show rightB 1 (dn : Int) ah = true by unfold rightB; simp; omega] at this
    exact this)
  obtain ⟨cf, hcf⟩ : ∃ cf : Cfg, cf = ⟨sd, 1, (dn : Int), ah⟩ := ⟨_, rfl⟩
  have hj0 : J cf (newH cf) := by rw [hcf]; exact newH_J hsd (show (1 : Nat) < 2 by omega) hah (show 0 ≤ (dn : Int) ∧ (dn : Int) ≤ 8 by omega)
  have pN0 := Lib.hid (show ∀ W, Calls Try.prog 25 #[.agg #[.int .u32 (sd : Int), .int .i64 1, .int .i64 (dn : Int), .int .i64 ah]] W fun e w' => ∃ s, e = .returned (.tuple #[.pointer (some ⟨s.g, 0, none⟩), .int .i64 0]) ∧ HAt w' cf s (newH cf) ∧ Below W.heap.size W w' ∧ ∀ k, fpE s k → W.heap.size ≤ k from fun W => by
    rw [hcf]; exact new_any W ⟨sd, 1, (dn : Int), ah⟩ hsd (show (1 : Nat) < 2 by omega) hah (show 0 ≤ (dn : Int) ∧ (dn : Int) ≤ 8 by omega))
  have hmk := fun W => mk_inputs W dn (by omega)
  have HMO := Lib.hid (fun W => made_on W dn (by omega))
  have HJ0 := Lib.hid hj0
  have HOPS := Lib.hid hops
  have HCF := Lib.hid (show cf.sd = sd ∧ cf.lo = 1 ∧ cf.de = (dn : Int) ∧ cf.ah = ah by rw [hcf]; exact ⟨rfl, rfl, rfl, rfl⟩)
  obtain ⟨l, hl⟩ : ∃ l, ops.length = l := ⟨_, rfl⟩
  have HL := Lib.hid hl
  rw [hl]
  rw [hl] at hlen
  obtain ⟨W1, hW1⟩ : ∃ W1, W1 = w.alloc (.cells #[.int .u32 (sd : Int), .int .i64 1, .int .i64 (dn : Int), .int .i64 ah] 58) := ⟨_, rfl⟩
  have hX : Blk W1 w.heap.size 58 #[.int .u32 (sd : Int), .int .i64 1, .int .i64 (dn : Int), .int .i64 ah] := by rw [hW1]; exact Blk.new _ _ _
  have hB : Below w.heap.size w W1 := by rw [hW1]; exact (Below.refl _ w).alloc (Nat.le_refl _) _
  clear hops hl hj0 hcf
  go_enter Try.func5, Try.ntmps5
  go_upto_region 1 with fail
  rw [← hW1]
  clear hW1
  go_wp2_with fail
  refine (pA.out _).mono ?_
  rintro e w1 ⟨rfl, b1⟩
  have hX1 := hX.below b1 hX.lt
  have k0 := hX1.cell 0
  have k1 := hX1.cell 1
  have k2 := hX1.cell 2
  have k3 := hX1.cell 3
  simp only [List.getElem?_toArray, List.getElem?_cons_zero, List.getElem?_cons_succ] at k0 k1 k2 k3
  have HX1 := Lib.hid hX1
  have HB := Lib.hid (hB.trans (b1.mono hB.size))
  clear hX hX1 hB b1
  go_wp2_with fail
  refine (pR.out _).mono ?_
  rintro e w2 ⟨rfl, b2⟩
  have hX2 := HX1.out.below b2 HX1.out.lt
  have k0 := hX2.cell 0
  have k1 := hX2.cell 1
  have k2 := hX2.cell 2
  have k3 := hX2.cell 3
  simp only [List.getElem?_toArray, List.getElem?_cons_zero, List.getElem?_cons_succ] at k0 k1 k2 k3
  have HX2 := Lib.hid hX2
  have HB2 := Lib.hid (HB.out.trans (b2.mono HB.out.size))
  clear hX2 b2 HB HX1
  go_wp2_with fail
  refine (pN0.out _).mono ?_
  rintro e w3 ⟨s, rfl, hA, b3, fa⟩
  have hX3 := HX2.out.below b3 HX2.out.lt
  have HX3 := Lib.hid hX3
  have hz2 := HB2.out.size
  have HFA := Lib.hid (show ∀ k, fpE s k → w.heap.size ≤ k from fun k hk => Nat.le_trans hz2 (fa k hk))
  have HB3 := Lib.hid (HB2.out.trans (b3.mono HB2.out.size))
  have HA := Lib.hid hA
  have j2 := hX3.cell 2
  have ja : ∀ o, (w3.alloc o).cell? ⟨w.heap.size, 2, none⟩ = some (.int .i64 (dn : Int)) := fun o => (hX3.alloc o).cell 2
  have jb : ∀ o o', ((w3.alloc o).alloc o').cell? ⟨w.heap.size, 2, none⟩ = some (.int .i64 (dn : Int)) := fun o o' => ((hX3.alloc o).alloc o').cell 2
  simp only [List.getElem?_toArray, List.getElem?_cons_zero, List.getElem?_cons_succ] at j2
  clear hX3 b3 HB2 HX2 hA fa hz2 k0 k1 k2 k3
  obtain ⟨g, hg⟩ : ∃ g, s.g = g := ⟨_, rfl⟩
  rw [hg]
  have HSU := Lib.hid (show ∀ W d i0 i1, Below w3.heap.size w3 W → W.heap[d]? = some (.cells #[.slice (some ⟨i0, 0, none⟩) dn dn, .slice (some ⟨i1, 0, none⟩) dn dn] 74 (0, 0)) →
    W.heap[i0]? = some (.cells (u16s (List.replicate dn 0)).toArray 33 (0, 0)) → W.heap[i1]? = some (.cells (u16s (List.replicate dn 0)).toArray 33 (0, 0)) → ¬ i0 = i1 → w3.heap.size ≤ i0 → w3.heap.size ≤ i1 → w3.heap.size ≤ d →
    SU w W cf g d s (newH cf) (fun i => if i = 0 then .slice (some ⟨i0, 0, none⟩) dn dn else .slice (some ⟨i1, 0, none⟩) dn dn) (fun _ => List.replicate dn 0) (fun _ => List.replicate dn 0) 0 from fun W d i0 i1 hb hd h0 h1 hne b0 b1 bd => by
    rw [← hg]
    exact SU.start HCF.out.2.2.1 hde HB3.out HA.out HJ0.out HFA.out (by rw [HCF.out.1, HCF.out.2.1, HCF.out.2.2.1, HCF.out.2.2.2]; exact HX3.out) hb hd h0 h1 hne b0 b1 bd)
  go_upto_region 8 with fail
  go_cut [7] (fun dv wx => ∃ d v S, dv = .pointer (some ⟨d, 0, none⟩) ∧ SU w wx cf g d s (newH cf) v S S 0)
  case first =>
    go_region
    all_goals
      go_wp2_with fail
      go_meet
      obtain ⟨xa, xb, xc, xd⟩ := heap3 w3 _ _ _
      first
        | exact ⟨_, _, _, rfl, HSU.out _ _ _ _ xd xa xb xc (by omega) (by omega) (by omega) (by omega)⟩
        | exact ⟨_, _, _, rfl, HSU.out _ _ _ _ xd xa xc xb (by omega) (by omega) (by omega) (by omega)⟩
        | exact ⟨_, _, _, rfl, HSU.out _ _ _ _ xd xb xa xc (by omega) (by omega) (by omega) (by omega)⟩
        | exact ⟨_, _, _, rfl, HSU.out _ _ _ _ xd xb xc xa (by omega) (by omega) (by omega) (by omega)⟩
        | exact ⟨_, _, _, rfl, HSU.out _ _ _ _ xd xc xa xb (by omega) (by omega) (by omega) (by omega)⟩
        | exact ⟨_, _, _, rfl, HSU.out _ _ _ _ xd xc xb xa (by omega) (by omega) (by omega) (by omega)⟩
        | fail
  case rest =>
    obtain ⟨d, v, S, rfl, hS0⟩ := hcut
    have HS0 := Lib.hid hS0
    clear hS0 HSU HB3 HA HFA HX3 ja jb j2 hmk HMO
    go_wp2_with fail
    (try simp only [Bool.or_false, Bool.and_true, Bool.or_self, Bool.and_self, Bool.true_and, Bool.false_or])
    go_loopw [8] (fun iv wr => ∃ (i : Nat) (s : SE) (x : H) (v : Nat → Value) (S : Nat → List Nat), i ≤ 60 ∧ iv = .int .i64 (i : Int) ∧ SU w wr cf g d s x v S S i) (fun iv _ => 60 - (intOf iv).toNat)
    case atStart => exact ⟨0, s, _, v, S, by omega, rfl, HS0.out⟩
    case round =>
      clear HS0 HJ0 pN0 pA pR
      obtain ⟨i, s, x, v, S, hi, rfl, hX⟩ := hrel
      have HX := Lib.hid hX
      by_cases c1 : i < l
      · have c1' : (i : Int) < (l : Int) := by omega
        have c1'' : decide ((i : Int) < (l : Int)) = true := by simp; omega
        by_cases c2 : i < 60
        · have c2' : (i : Int) < 60 := by omega
          obtain ⟨o, ho⟩ : ∃ o, ops[i]? = some o := ⟨_, List.getElem?_eq_getElem (by rw [HL.out]; exact c1)⟩
          obtain ⟨hb1, hb2, hb3⟩ := HOPS.out.1 o (List.mem_of_getElem? ho)
          obtain ⟨b, off, rfl, hbl, hcs⟩ := HOPS.out.2 (by rw [HL.out]; omega)
          obtain ⟨k0, k1, k2⟩ := hcs i o ho
          obtain ⟨kd, u, of⟩ := o
          have z0 : wr.cell? ⟨b, off + i * 3, none⟩ = some (.int .i64 kd) := (HX.out.lo.cell (p := ⟨b, off + i * 3, none⟩) hbl).trans k0
          have z1 : wr.cell? ⟨b, off + i * 3 + 1, none⟩ = some (.int .u16 (u : Int)) := (HX.out.lo.cell (p := ⟨b, off + i * 3 + 1, none⟩) hbl).trans k1
          have z2 : wr.cell? ⟨b, off + i * 3 + 1 + 1, none⟩ = some (.int .i64 of) := (HX.out.lo.cell (p := ⟨b, off + i * 3 + 1 + 1, none⟩) hbl).trans k2
          simp only at hb1 hb2 hb3
          have j0 : (0 : Int) ≤ (i : Int) := by omega
          have HO := Lib.hid (Blk.new wr 64 #[.int .i64 kd, .int .u16 (u : Int), .int .i64 of])
          have HX6 := Lib.hid (HX.out.below ((Below.refl _ wr).alloc (Nat.le_refl _) (.cells #[.int .i64 kd, .int .u16 (u : Int), .int .i64 of] 64)))
          clear hcs k0 k1 k2 hX HX ho
          by_cases e0 : kd = 0
          · subst e0
            have pV := Lib.hid (HX6.out.adv (by omega) u hb1)
            clear HX6
            go_wp2_with fail
            refine pV.out.mono ?_
            rintro ee w7 ⟨hkeep, ⟨rfl, s', x', h7⟩ | ⟨rfl, s', x', h7⟩⟩
            · have H8 := Lib.hid h7
              clear h7 hkeep pV
              obtain ⟨fr, cc, su, hcc, i1, i2, i3, i4, pF, pC, pS⟩ := H8.out.check
              rw [HCF.out.2.2.2] at i1
              obtain ⟨va, vc, hva, -⟩ := (H8.out.l 0 (by omega)).slice
              obtain ⟨wa, wc', hwa, -⟩ := (H8.out.l 1 (by omega)).slice
              have d0 := H8.out.kn.cell 0
              have d1 := H8.out.kn.cell 1
              have q3 := H8.out.cfg.cell 3
              simp only [List.getElem?_toArray, List.getElem?_cons_zero, List.getElem?_cons_succ] at d0 d1 q3
              rw [HCF.out.2.2.2] at q3
              rw [hva] at d0
              rw [hwa] at d1
              generalize (S 0).length = n0 at *
              generalize (S 1).length = n1 at *
              have g1 : decide (cc + ah < fr) = false := by simp; omega
              have g2 : decide (fr < su) = false := by simp; omega
              have g3 : decide ((n0 : Int) < su) = false := by simp; omega
              have g4 : decide ((n1 : Int) < su) = false := by simp; omega
              have gw : IntKind.i64.wrap (cc + ah) = cc + ah := IntWalk.i64_in _ (by omega)
              have PF := Lib.hid pF
              have PC := Lib.hid pC
              have PS := Lib.hid pS
              clear pF pC pS i1 i2 i3 i4 hcc hva hwa
              go_upto_region 23 with fail
              go_quiet (first | (go_at_call 34; exact Calls.quiet_of_same (PF.out _)) | (go_at_call 35; exact Calls.quiet_of (PC.out _)) | (go_at_call 30; exact Calls.quiet_of (PS.out _)))
              have H9 := Lib.hid (H8.out.below (below_drewN (Below.refl _ _) nq))
              clear H8 PF PC PS d0 d1 q3
              go_wp2_with fail
              go_roundw
              case rel => exact ⟨i + 1, _, _, _, _, by omega, by go_num, H9.out⟩
              case measure => simp [intOf]; omega
            · rw [HCF.out.2.1] at h7
              have hO7 := hkeep _ _ HO.out
              have y1 := hO7.cell 1
              have y1' := (hO7.alloc (.cells #[.int .u16 (u : Int)] 33)).cell 1
              simp only [List.getElem?_toArray, List.getElem?_cons_zero, List.getElem?_cons_succ] at y1 y1'
              have q1 := h7.cfg.cell 1
              have q1' := (h7.cfg.alloc (.cells #[.int .u16 (u : Int)] 33)).cell 1
              simp only [List.getElem?_toArray, List.getElem?_cons_zero, List.getElem?_cons_succ] at q1 q1'
              rw [HCF.out.2.1] at q1 q1'
              have hS : (S 1).length ≤ 1000 := by
                have a := h7.j.kn 1 (by omega)
                rw [h7.ks 1 (by omega), upd_at, List.length_append] at a
                omega
              obtain ⟨a2, c2x, w8, hrun, hd8, hq8, v8, h8⟩ := h7.app (i := 1) (by omega) hS u 1
              have hrun' : (appI #[73, 73] 73 #[v 1, .slice (some ⟨w7.heap.size, 0, none⟩) 1 1]).run Try.prog (w7.alloc (.cells #[.int .u16 (u : Int)] 33)).drew = .ok (.slice a2 ((S 1).length + 1) c2x) w8 := hrun
              obtain ⟨va, vc, hva, -⟩ := (h7.l 0 (by omega)).slice
              obtain ⟨wa, wc', hwa, -⟩ := (h7.l 1 (by omega)).slice
              have d0 := h7.kn.cell 0
              have d1 := h7.kn.cell 1
              have e0' := (h7.kn.alloc (.cells #[.int .u16 (u : Int)] 33)).cell 0
              have e1' := (h7.kn.alloc (.cells #[.int .u16 (u : Int)] 33)).cell 1
              have g0 := hd8.cell 0
              have g1 := hd8.cell 1
              have q8 := hq8.cell 1
              simp only [List.getElem?_toArray, List.getElem?_cons_zero, List.getElem?_cons_succ] at d0 d1 e0' e1' g0 g1 q8
              rw [HCF.out.2.1] at q8
              rw [hva] at d0 e0' g0
              rw [hwa] at d1 e1' g1 hrun'
              have g0f := hd8.frozen 0
              have g1f := hd8.frozen 1
              have HH := Lib.hid h8
              have H8 := Lib.hid h8
              clear h7 h8 hd8 hkeep pV hO7 hrun hva hwa hq8
              go_upto_region 16 with fail
              go_region
              all_goals
                clear hrun' d0 d1 e0' e1' g0 g1 g0f g1f y1 y1' q1 q1' q8
                go_wp2_with fail
                obtain ⟨fr, cc, su, hcc, i1, i2, i3, i4, pF, pC, pS⟩ := H8.out.check
                rw [HCF.out.2.2.2] at i1
                obtain ⟨va, vc, hva, -⟩ := (H8.out.l 0 (by omega)).slice
                obtain ⟨wa, wc', hwa, -⟩ := (H8.out.l 1 (by omega)).slice
                have d0 := H8.out.kn.cell 0
                have d1 := H8.out.kn.cell 1
                have q3 := H8.out.cfg.cell 3
                simp only [List.getElem?_toArray, List.getElem?_cons_zero, List.getElem?_cons_succ] at d0 d1 q3
                rw [HCF.out.2.2.2] at q3
                rw [hva] at d0
                rw [hwa] at d1
                generalize (upd S 1 (S 1 ++ [u]) 0).length = n0 at *
                generalize (upd S 1 (S 1 ++ [u]) 1).length = n1 at *
                have g1 : decide (cc + ah < fr) = false := by simp; omega
                have g2 : decide (fr < su) = false := by simp; omega
                have g3 : decide ((n0 : Int) < su) = false := by simp; omega
                have g4 : decide ((n1 : Int) < su) = false := by simp; omega
                have gw : IntKind.i64.wrap (cc + ah) = cc + ah := IntWalk.i64_in _ (by omega)
                have PF := Lib.hid pF
                have PC := Lib.hid pC
                have PS := Lib.hid pS
                clear pF pC pS i1 i2 i3 i4 hcc hva hwa
                go_upto_region 23 with fail
                go_quiet (first | (go_at_call 34; exact Calls.quiet_of_same (PF.out _)) | (go_at_call 35; exact Calls.quiet_of (PC.out _)) | (go_at_call 30; exact Calls.quiet_of (PS.out _)))
                have H9 := Lib.hid (H8.out.below (below_drewN (Below.refl _ _) nq))
                clear H8 PF PC PS d0 d1 q3
                go_wp2_with fail
                go_roundw
                case rel => exact ⟨i + 1, _, _, _, _, by omega, by go_num, H9.out⟩
                case measure => simp [intOf]; omega
          by_cases e1 : kd = 1
          · subst e1
            clear e0
            have pV := Lib.hid (HX6.out.rem (by omega) u hb1)
            clear HX6
            go_wp2_with fail
            refine pV.out.mono ?_
            rintro ee w7 ⟨hkeep, ⟨z, rfl⟩, s', x', h7⟩
            rw [HCF.out.2.1, show 1 - 1 = 0 from rfl] at h7
            have hO7 := hkeep _ _ HO.out
            have y1 := hO7.cell 1
            have y1' := (hO7.alloc (.cells #[.int .u16 (u : Int)] 33)).cell 1
            simp only [List.getElem?_toArray, List.getElem?_cons_zero, List.getElem?_cons_succ] at y1 y1'
            have q1 := h7.cfg.cell 1
            have q1' := (h7.cfg.alloc (.cells #[.int .u16 (u : Int)] 33)).cell 1
            simp only [List.getElem?_toArray, List.getElem?_cons_zero, List.getElem?_cons_succ] at q1 q1'
            rw [HCF.out.2.1] at q1 q1'
            have hS : (S 0).length ≤ 1000 := by
              have a := h7.j.kn 0 (by omega)
              rw [h7.ks 0 (by omega), upd_at, List.length_append] at a
              omega
            obtain ⟨a2, c2x, w8, hrun, hd8, hq8, v8, h8⟩ := h7.app (i := 0) (by omega) hS u 1
            have hrun' : (appI #[73, 73] 73 #[v 0, .slice (some ⟨w7.heap.size, 0, none⟩) 1 1]).run Try.prog (w7.alloc (.cells #[.int .u16 (u : Int)] 33)).drew = .ok (.slice a2 ((S 0).length + 1) c2x) w8 := hrun
            obtain ⟨va, vc, hva, -⟩ := (h7.l 0 (by omega)).slice
            obtain ⟨wa, wc', hwa, -⟩ := (h7.l 1 (by omega)).slice
            have d0 := h7.kn.cell 0
            have d1 := h7.kn.cell 1
            have e0' := (h7.kn.alloc (.cells #[.int .u16 (u : Int)] 33)).cell 0
            have e1' := (h7.kn.alloc (.cells #[.int .u16 (u : Int)] 33)).cell 1
            have g0 := hd8.cell 0
            have g1 := hd8.cell 1
            have q8 := hq8.cell 1
            simp only [List.getElem?_toArray, List.getElem?_cons_zero, List.getElem?_cons_succ] at d0 d1 e0' e1' g0 g1 q8
            rw [HCF.out.2.1] at q8
            rw [hva] at d0 e0' g0 hrun'
            rw [hwa] at d1 e1' g1
            have g0f := hd8.frozen 0
            have g1f := hd8.frozen 1
            have HH := Lib.hid h8
            have H8 := Lib.hid h8
            clear h7 h8 hd8 hkeep pV hO7 hrun hva hwa hq8
            go_upto_region 20 with fail
            go_region
            all_goals
              clear hrun' d0 d1 e0' e1' g0 g1 g0f g1f y1 y1' q1 q1' q8
              go_wp2_with fail
              obtain ⟨fr, cc, su, hcc, i1, i2, i3, i4, pF, pC, pS⟩ := H8.out.check
              rw [HCF.out.2.2.2] at i1
              obtain ⟨va, vc, hva, -⟩ := (H8.out.l 0 (by omega)).slice
              obtain ⟨wa, wc', hwa, -⟩ := (H8.out.l 1 (by omega)).slice
              have d0 := H8.out.kn.cell 0
              have d1 := H8.out.kn.cell 1
              have q3 := H8.out.cfg.cell 3
              simp only [List.getElem?_toArray, List.getElem?_cons_zero, List.getElem?_cons_succ] at d0 d1 q3
              rw [HCF.out.2.2.2] at q3
              rw [hva] at d0
              rw [hwa] at d1
              generalize (upd S 0 (S 0 ++ [u]) 0).length = n0 at *
              generalize (upd S 0 (S 0 ++ [u]) 1).length = n1 at *
              have g1 : decide (cc + ah < fr) = false := by simp; omega
              have g2 : decide (fr < su) = false := by simp; omega
              have g3 : decide ((n0 : Int) < su) = false := by simp; omega
              have g4 : decide ((n1 : Int) < su) = false := by simp; omega
              have gw : IntKind.i64.wrap (cc + ah) = cc + ah := IntWalk.i64_in _ (by omega)
              have PF := Lib.hid pF
              have PC := Lib.hid pC
              have PS := Lib.hid pS
              clear pF pC pS i1 i2 i3 i4 hcc hva hwa
              go_upto_region 23 with fail
              go_quiet (first | (go_at_call 34; exact Calls.quiet_of_same (PF.out _)) | (go_at_call 35; exact Calls.quiet_of (PC.out _)) | (go_at_call 30; exact Calls.quiet_of (PS.out _)))
              have H9 := Lib.hid (H8.out.below (below_drewN (Below.refl _ _) nq))
              clear H8 PF PC PS d0 d1 q3
              go_wp2_with fail
              go_roundw
              case rel => exact ⟨i + 1, _, _, _, _, by omega, by go_num, H9.out⟩
              case measure => simp [intOf]; omega
          by_cases e2 : kd = 2
          · subst e2
            clear e0 e1
            have pV := Lib.hid (HX6.out.fix (by omega))
            clear HX6
            go_wp2_with fail
            refine pV.out.mono ?_
            rintro ee w7 ⟨⟨z, rfl⟩, s', x', h7⟩
            have H8 := Lib.hid h7
            clear h7 pV
            obtain ⟨fr, cc, su, hcc, i1, i2, i3, i4, pF, pC, pS⟩ := H8.out.check
            rw [HCF.out.2.2.2] at i1
            obtain ⟨va, vc, hva, -⟩ := (H8.out.l 0 (by omega)).slice
            obtain ⟨wa, wc', hwa, -⟩ := (H8.out.l 1 (by omega)).slice
            have d0 := H8.out.kn.cell 0
            have d1 := H8.out.kn.cell 1
            have q3 := H8.out.cfg.cell 3
            simp only [List.getElem?_toArray, List.getElem?_cons_zero, List.getElem?_cons_succ] at d0 d1 q3
            rw [HCF.out.2.2.2] at q3
            rw [hva] at d0
            rw [hwa] at d1
            generalize (S 0).length = n0 at *
            generalize (S 1).length = n1 at *
            have g1 : decide (cc + ah < fr) = false := by simp; omega
            have g2 : decide (fr < su) = false := by simp; omega
            have g3 : decide ((n0 : Int) < su) = false := by simp; omega
            have g4 : decide ((n1 : Int) < su) = false := by simp; omega
            have gw : IntKind.i64.wrap (cc + ah) = cc + ah := IntWalk.i64_in _ (by omega)
            have PF := Lib.hid pF
            have PC := Lib.hid pC
            have PS := Lib.hid pS
            clear pF pC pS i1 i2 i3 i4 hcc hva hwa
            go_upto_region 23 with fail
            go_quiet (first | (go_at_call 34; exact Calls.quiet_of_same (PF.out _)) | (go_at_call 35; exact Calls.quiet_of (PC.out _)) | (go_at_call 30; exact Calls.quiet_of (PS.out _)))
            have H9 := Lib.hid (H8.out.below (below_drewN (Below.refl _ _) nq))
            clear H8 PF PC PS d0 d1 q3
            go_wp2_with fail
            go_roundw
            case rel => exact ⟨i + 1, _, _, _, _, by omega, by go_num, H9.out⟩
            case measure => simp [intOf]; omega
          have H8 := Lib.hid HX6.out.up
          clear HX6
          obtain ⟨fr, cc, su, hcc, i1, i2, i3, i4, pF, pC, pS⟩ := H8.out.check
          rw [HCF.out.2.2.2] at i1
          obtain ⟨va, vc, hva, -⟩ := (H8.out.l 0 (by omega)).slice
          obtain ⟨wa, wc', hwa, -⟩ := (H8.out.l 1 (by omega)).slice
          have d0 := H8.out.kn.cell 0
          have d1 := H8.out.kn.cell 1
          have q3 := H8.out.cfg.cell 3
          simp only [List.getElem?_toArray, List.getElem?_cons_zero, List.getElem?_cons_succ] at d0 d1 q3
          rw [HCF.out.2.2.2] at q3
          rw [hva] at d0
          rw [hwa] at d1
          generalize (S 0).length = n0 at *
          generalize (S 1).length = n1 at *
          have g1 : decide (cc + ah < fr) = false := by simp; omega
          have g2 : decide (fr < su) = false := by simp; omega
          have g3 : decide ((n0 : Int) < su) = false := by simp; omega
          have g4 : decide ((n1 : Int) < su) = false := by simp; omega
          have gw : IntKind.i64.wrap (cc + ah) = cc + ah := IntWalk.i64_in _ (by omega)
          have PF := Lib.hid pF
          have PC := Lib.hid pC
          have PS := Lib.hid pS
          clear pF pC pS i1 i2 i3 i4 hcc hva hwa
          go_upto_region 23 with fail
          go_quiet (first | (go_at_call 34; exact Calls.quiet_of_same (PF.out _)) | (go_at_call 35; exact Calls.quiet_of (PC.out _)) | (go_at_call 30; exact Calls.quiet_of (PS.out _)))
          have H9 := Lib.hid (H8.out.below (below_drewN (Below.refl _ _) nq))
          clear H8 PF PC PS d0 d1 q3
          go_wp2_with fail
          go_roundw
          case rel => exact ⟨i + 1, _, _, _, _, by omega, by go_num, H9.out⟩
          case measure => simp [intOf]; omega
        · obtain rfl : i = 60 := by omega
          rw [show ((60 : Nat) : Int) = 60 from rfl] at c1' c1'' ⊢
          clear hX
          have q0 := HX.out.cfg.cell 0
          simp only [List.getElem?_toArray, List.getElem?_cons_zero, List.getElem?_cons_succ] at q0
          obtain ⟨D, LD⟩ := let_of (newF (cf.sd : Int))
          have hsd2 := HX.out.j.sd
          have pN := Lib.hid (show ∀ W, Calls Try.prog 36 #[.int .u32 (cf.sd : Int)] W fun e w' => e = .returned (.agg D.toList.toArray) ∧ Below W.heap.size W w' from fun W => by
            have := rnew_any W (cf.sd : Int) (by omega) (by omega)
            unfold stV at this
            rw [← LD.eq] at this
            rw [Array.toArray_toList]
            exact this)
          have HSN := Lib.hid (fun w1 => storeNew w1 LD)
          have HLD := Lib.hid LD
          obtain ⟨L0, hL0⟩ : ∃ L0, D.toList = L0 := ⟨_, rfl⟩
          have hDL : D = L0.toArray := by rw [← hL0, Array.toArray_toList]
          rw [hL0] at pN
          rw [hDL] at HLD
          have HSN2 := Lib.hid (show ∀ w1, ∃ W3, storeR Try.prog 53 (.pointer (some ⟨w1.heap.size, 0, none⟩)) (.agg L0.toArray) (w1.alloc (.cells Try.zeroCells53 53)) = .ok .skip W3 ∧ Blk W3 w1.heap.size 53 L0.toArray ∧ Below w1.heap.size w1 W3 from fun w1 => by
            rw [← hDL]
            exact storeNewB w1 LD)
          clear LD HSN hL0 hDL hsd2
          go_wp2_with fail
          (try simp only [Bool.or_false, Bool.and_true, Bool.or_self, Bool.and_self, Bool.true_and, Bool.false_or])
          refine (pN.out _).mono ?_
          rintro e w5 ⟨rfl, b5⟩
          obtain ⟨W6, hst6, hB6, b6⟩ := HSN2.out w5
          have HV0 := Lib.hid (show SV w W6 cf g d w5.heap.size s x v S 60 0 L0 from ⟨HX.out.below (b5.trans (b6.mono b5.size)), hB6, Nat.le_trans HX.out.lo.size b5.size, _, HLD.out, fun _ => rfl⟩)
          clear HX hB6 b6 b5 HSN2 HLD q0 pN
          obtain ⟨k, hk⟩ : ∃ k, w5.heap.size = k := ⟨_, rfl⟩
          rw [hk] at HV0 hst6
          go_wp2_with fail
          clear hst6 hk
          obtain ⟨i0, hi0⟩ : ∃ i0 : Nat, i0 = 60 := ⟨_, rfl⟩
          rw [← hi0] at HV0
          clear hi0
          go_loopw [13] (fun nv wq => ∃ (n : Nat) (L : List Value), n ≤ 200 ∧ nv = .int .i64 (n : Int) ∧ SV w wq cf g d k s x v S i0 n L) (fun nv _ => 1000 - (intOf nv).toNat)
          case atStart => exact ⟨0, L0, by omega, rfl, HV0.out⟩
          case round =>
            clear HV0
            obtain ⟨n, L, hn, rfl, hV⟩ := hrel
            have HV := Lib.hid hV
            have hS := hV.sure
            have hsu := (sureH_le x).1
            have hun := hV.su.j.un
            obtain ⟨su, hsue⟩ : ∃ su, sureH x = su := ⟨_, rfl⟩
            by_cases hns : (n : Int) ≤ su
            · obtain ⟨L2, code, hcode, ⟨f2, LC2⟩, heq, hAt⟩ := hV.at (by omega)
              have HN := Lib.hid (fun (h : (n : Int) < su) => hV.next (by omega))
              rw [hsue] at hS hsu
              have PS := Lib.hid hS
              have PA := Lib.hid hAt
              have HC := Lib.hid hcode
              have HL2 := Lib.hid LC2
              have n200 : n + 1 ≤ 200 := by omega
              have hsf := Lib.hid hsue
              clear hV hS hAt hcode LC2 hsu hun hsue
              go_wp2_with fail
              refine (PS.out 0).mono ?_
              rintro e w7 ⟨rfl, n1, rfl⟩
              go_wp2_with fail
              refine (PA.out _ (below_drewN (Below.refl _ _) _)).mono ?_
              rintro e w8 ⟨rfl, b8⟩
              obtain ⟨W9, hst9, hB9, b9⟩ := storeNewB w8 HL2.out
              have hbb := ((below_drewN (Below.refl _ wr) n1).trans (b8.mono (Nat.le_refl _))).trans (b9.mono b8.size)
              have HV9 := Lib.hid (HV.out.below hbb)
              have HB9 := Lib.hid hbb
              have r12 := HV9.out.row
              have r14 : rowIn W9 w8.heap.size 0 66 = some L2 := by
                refine rowIn_of (fun j u hu => ?_) (by have := HL2.out.size; simpa using this)
                rw [Nat.zero_add, hB9.cell j]
                simpa using hu
              have PS9 := Lib.hid HV9.out.sure
              have hg33 := guard33
              clear HV PS PA b8 b9 hB9 hbb
              rw [hsf.out] at PS9
              rcases HC.out with ⟨rfl, hLL⟩ | rfl
              · obtain rfl : L = L2 := hLL.symm
                go_wp2_with fail
                refine (PS9.out 0).mono ?_
                rintro e w10 ⟨rfl, n2, hw10⟩
                obtain rfl : w10 = W9.drewN n2 := hw10
                by_cases hlt : (n : Int) < su
                · obtain ⟨L3, ⟨hl0, hl1⟩, pT, hST⟩ := HN.out hlt
                  have PT := Lib.hid pT
                  have ST := Lib.hid hST
                  have hVV := HV9.out.below (below_drewN (Below.refl _ W9) n2)
                  have HBV := Lib.hid (HB9.out.trans ((below_drewN (Below.refl _ W9) n2).mono HB9.out.size))
                  generalize W9.drewN n2 = V at *
                  obtain ⟨va, vc, hva, hvat⟩ := sent_at2 (hVV.su.l 0 (by omega))
                  obtain ⟨wa, wc', hwa, hwat⟩ := sent_at2 (hVV.su.l 1 (by omega))
                  obtain ⟨ga, rfl, hga, cga⟩ := hvat n hl0
                  obtain ⟨gb, rfl, hgb, cgb⟩ := hwat n hl1
                  have d0 := hVV.su.kn.cell 0
                  have d1 := hVV.su.kn.cell 1
                  simp only [List.getElem?_toArray, List.getElem?_cons_zero, List.getElem?_cons_succ] at d0 d1
                  rw [hva] at d0
                  rw [hwa] at d1
                  have rV : rowIn V.drew k 0 66 = some L := hVV.row
                  have rV0 : rowIn V k 0 66 = some L := hVV.row
                  have nn0 : (0 : Int) ≤ (n : Int) := by omega
                  have nl0 : (n : Int) < ((S 0).length : Int) := by omega
                  have nl1 : (n : Int) < ((S 1).length : Int) := by omega
                  generalize (S 0).getD n 0 = in0 at *
                  generalize (S 1).getD n 0 = in1 at *
                  generalize (S 0).length = len0 at *
                  generalize (S 1).length = len1 at *
                  have HVX := Lib.hid hVV
                  clear hVV pT hST HN hvat hwat hva hwa hga hgb hst9 r12 r14 PS9 HV9 HB9 HC heq
                  have hV2 := HVX.out.blk
                  have hifL : (Try.prog.info? 53).map (·.size) = some L.toArray.size := by obtain ⟨f, LC, -⟩ := HVX.out.st; exact LC.info
                  go_upto_region 33 with fail
                  refine wp_region_still_tail 12 (by kernel_rfl) (by kernel_rfl) ?_
                  simp only [List.take_succ_cons, List.take_zero, List.drop_succ_cons, List.drop_zero]
                  refine wpStill_load_blk (by rfl) 53 _ (by rfl) k (by rfl) _ L.toArray _ hV2.drew Try.underlying53 (by rfl) hifL ?_
                  repeat still_step
                  refine wpStill_nil ?_
                  change wpList _ _ _ _ _ (World.drew _)
                  go_wp2_with fail
                  refine (PT.out _).mono ?_
                  rintro e w11 ⟨rfl, h11⟩
                  obtain ⟨w12, hst12, hV12⟩ := ST.out w11 (HBV.out.trans ⟨h11.os, h11.tape, h11.output, h11.size, fun kk hkk => h11.block kk (Nat.lt_of_lt_of_le hkk HBV.out.size)⟩)
                  have HV12 := Lib.hid hV12
                  clear hV12
                  iterate 1
                    go_wp2_with fail
                    go_roundw
                    case rel => exact ⟨n + 1, L3, n200, by go_num, HV12.out⟩
                    case measure => simp [intOf]; omega
                · have HSK := Lib.hid ((HV9.out.below (below_drewN (Below.refl _ W9) n2)).skip (by rw [hsf.out]; exact hlt))
                  clear HN HV9 HB9 PS9 hst9 r12 r14 HC heq
                  go_wp2_with fail
                  go_roundw
                  case rel => exact ⟨n + 1, L, n200, by go_num, HSK.out⟩
                  case measure => simp [intOf]; omega
              · go_wp2_with fail
                refine (PS9.out 0).mono ?_
                rintro e w10 ⟨rfl, n2, hw10⟩
                obtain rfl : w10 = W9.drewN n2 := hw10
                by_cases hlt : (n : Int) < su
                · obtain ⟨L3, ⟨hl0, hl1⟩, pT, hST⟩ := HN.out hlt
                  have PT := Lib.hid pT
                  have ST := Lib.hid hST
                  have hVV := HV9.out.below (below_drewN (Below.refl _ W9) n2)
                  have HBV := Lib.hid (HB9.out.trans ((below_drewN (Below.refl _ W9) n2).mono HB9.out.size))
                  generalize W9.drewN n2 = V at *
                  obtain ⟨va, vc, hva, hvat⟩ := sent_at2 (hVV.su.l 0 (by omega))
                  obtain ⟨wa, wc', hwa, hwat⟩ := sent_at2 (hVV.su.l 1 (by omega))
                  obtain ⟨ga, rfl, hga, cga⟩ := hvat n hl0
                  obtain ⟨gb, rfl, hgb, cgb⟩ := hwat n hl1
                  have d0 := hVV.su.kn.cell 0
                  have d1 := hVV.su.kn.cell 1
                  simp only [List.getElem?_toArray, List.getElem?_cons_zero, List.getElem?_cons_succ] at d0 d1
                  rw [hva] at d0
                  rw [hwa] at d1
                  have rV : rowIn V.drew k 0 66 = some L := hVV.row
                  have rV0 : rowIn V k 0 66 = some L := hVV.row
                  have nn0 : (0 : Int) ≤ (n : Int) := by omega
                  have nl0 : (n : Int) < ((S 0).length : Int) := by omega
                  have nl1 : (n : Int) < ((S 1).length : Int) := by omega
                  generalize (S 0).getD n 0 = in0 at *
                  generalize (S 1).getD n 0 = in1 at *
                  generalize (S 0).length = len0 at *
                  generalize (S 1).length = len1 at *
                  have HVX := Lib.hid hVV
                  clear hVV pT hST HN hvat hwat hva hwa hga hgb hst9 r12 r14 PS9 HV9 HB9 HC heq
                  have hV2 := HVX.out.blk
                  have hifL : (Try.prog.info? 53).map (·.size) = some L.toArray.size := by obtain ⟨f, LC, -⟩ := HVX.out.st; exact LC.info
                  go_upto_region 33 with fail
                  refine wp_region_still_tail 12 (by kernel_rfl) (by kernel_rfl) ?_
                  simp only [List.take_succ_cons, List.take_zero, List.drop_succ_cons, List.drop_zero]
                  refine wpStill_load_blk (by rfl) 53 _ (by rfl) k (by rfl) _ L.toArray _ hV2.drew Try.underlying53 (by rfl) hifL ?_
                  repeat still_step
                  refine wpStill_nil ?_
                  change wpList _ _ _ _ _ (World.drew _)
                  go_wp2_with fail
                  refine (PT.out _).mono ?_
                  rintro e w11 ⟨rfl, h11⟩
                  obtain ⟨w12, hst12, hV12⟩ := ST.out w11 (HBV.out.trans ⟨h11.os, h11.tape, h11.output, h11.size, fun kk hkk => h11.block kk (Nat.lt_of_lt_of_le hkk HBV.out.size)⟩)
                  have HV12 := Lib.hid hV12
                  clear hV12
                  iterate 1
                    go_wp2_with fail
                    go_roundw
                    case rel => exact ⟨n + 1, L3, n200, by go_num, HV12.out⟩
                    case measure => simp [intOf]; omega
                · have HSK := Lib.hid ((HV9.out.below (below_drewN (Below.refl _ W9) n2)).skip (by rw [hsf.out]; exact hlt))
                  clear HN HV9 HB9 PS9 hst9 r12 r14 HC heq
                  go_wp2_with fail
                  go_roundw
                  case rel => exact ⟨n + 1, L, n200, by go_num, HSK.out⟩
                  case measure => simp [intOf]; omega
            · rw [hsue] at hS
              have PS := Lib.hid hS
              have HLO := Lib.hid hV.su.lo
              clear hV hS HV hsu hun hsue
              go_wp2_with fail
              refine (PS.out 0).mono ?_
              rintro e w7 ⟨rfl, n1, rfl⟩
              go_wp2_with fail
              go_ret
              exact ⟨rfl, below_drewN HLO.out _⟩
      · obtain ⟨c1', c1''⟩ : ¬ (i : Int) < (l : Int) ∧ decide ((i : Int) < (l : Int)) = false := ⟨by omega, by simp; omega⟩
        clear hX
        have q0 := HX.out.cfg.cell 0
        simp only [List.getElem?_toArray, List.getElem?_cons_zero, List.getElem?_cons_succ] at q0
        obtain ⟨D, LD⟩ := let_of (newF (cf.sd : Int))
        have hsd2 := HX.out.j.sd
        have pN := Lib.hid (show ∀ W, Calls Try.prog 36 #[.int .u32 (cf.sd : Int)] W fun e w' => e = .returned (.agg D.toList.toArray) ∧ Below W.heap.size W w' from fun W => by
          have := rnew_any W (cf.sd : Int) (by omega) (by omega)
          unfold stV at this
          rw [← LD.eq] at this
          rw [Array.toArray_toList]
          exact this)
        have HSN := Lib.hid (fun w1 => storeNew w1 LD)
        have HLD := Lib.hid LD
        obtain ⟨L0, hL0⟩ : ∃ L0, D.toList = L0 := ⟨_, rfl⟩
        have hDL : D = L0.toArray := by rw [← hL0, Array.toArray_toList]
        rw [hL0] at pN
        rw [hDL] at HLD
        have HSN2 := Lib.hid (show ∀ w1, ∃ W3, storeR Try.prog 53 (.pointer (some ⟨w1.heap.size, 0, none⟩)) (.agg L0.toArray) (w1.alloc (.cells Try.zeroCells53 53)) = .ok .skip W3 ∧ Blk W3 w1.heap.size 53 L0.toArray ∧ Below w1.heap.size w1 W3 from fun w1 => by
          rw [← hDL]
          exact storeNewB w1 LD)
        clear LD HSN hL0 hDL hsd2
        go_wp2_with fail
        (try simp only [Bool.or_false, Bool.and_true, Bool.or_self, Bool.and_self, Bool.true_and, Bool.false_or])
        refine (pN.out _).mono ?_
        rintro e w5 ⟨rfl, b5⟩
        obtain ⟨W6, hst6, hB6, b6⟩ := HSN2.out w5
        have HV0 := Lib.hid (show SV w W6 cf g d w5.heap.size s x v S i 0 L0 from ⟨HX.out.below (b5.trans (b6.mono b5.size)), hB6, Nat.le_trans HX.out.lo.size b5.size, _, HLD.out, fun _ => rfl⟩)
        clear HX hB6 b6 b5 HSN2 HLD q0 pN
        obtain ⟨k, hk⟩ : ∃ k, w5.heap.size = k := ⟨_, rfl⟩
        rw [hk] at HV0 hst6
        go_wp2_with fail
        clear hst6 hk
        obtain ⟨i0, hi0⟩ : ∃ i0 : Nat, i0 = i := ⟨_, rfl⟩
        rw [← hi0] at HV0
        clear hi0
        go_loopw [13] (fun nv wq => ∃ (n : Nat) (L : List Value), n ≤ 200 ∧ nv = .int .i64 (n : Int) ∧ SV w wq cf g d k s x v S i0 n L) (fun nv _ => 1000 - (intOf nv).toNat)
        case atStart => exact ⟨0, L0, by omega, rfl, HV0.out⟩
        case round =>
          clear HV0
          obtain ⟨n, L, hn, rfl, hV⟩ := hrel
          have HV := Lib.hid hV
          have hS := hV.sure
          have hsu := (sureH_le x).1
          have hun := hV.su.j.un
          obtain ⟨su, hsue⟩ : ∃ su, sureH x = su := ⟨_, rfl⟩
          by_cases hns : (n : Int) ≤ su
          · obtain ⟨L2, code, hcode, ⟨f2, LC2⟩, heq, hAt⟩ := hV.at (by omega)
            have HN := Lib.hid (fun (h : (n : Int) < su) => hV.next (by omega))
            rw [hsue] at hS hsu
            have PS := Lib.hid hS
            have PA := Lib.hid hAt
            have HC := Lib.hid hcode
            have HL2 := Lib.hid LC2
            have n200 : n + 1 ≤ 200 := by omega
            have hsf := Lib.hid hsue
            clear hV hS hAt hcode LC2 hsu hun hsue
            go_wp2_with fail
            refine (PS.out 0).mono ?_
            rintro e w7 ⟨rfl, n1, rfl⟩
            go_wp2_with fail
            refine (PA.out _ (below_drewN (Below.refl _ _) _)).mono ?_
            rintro e w8 ⟨rfl, b8⟩
            obtain ⟨W9, hst9, hB9, b9⟩ := storeNewB w8 HL2.out
            have hbb := ((below_drewN (Below.refl _ wr) n1).trans (b8.mono (Nat.le_refl _))).trans (b9.mono b8.size)
            have HV9 := Lib.hid (HV.out.below hbb)
            have HB9 := Lib.hid hbb
            have r12 := HV9.out.row
            have r14 : rowIn W9 w8.heap.size 0 66 = some L2 := by
              refine rowIn_of (fun j u hu => ?_) (by have := HL2.out.size; simpa using this)
              rw [Nat.zero_add, hB9.cell j]
              simpa using hu
            have PS9 := Lib.hid HV9.out.sure
            have hg33 := guard33
            clear HV PS PA b8 b9 hB9 hbb
            rw [hsf.out] at PS9
            rcases HC.out with ⟨rfl, hLL⟩ | rfl
            · obtain rfl : L = L2 := hLL.symm
              go_wp2_with fail
              refine (PS9.out 0).mono ?_
              rintro e w10 ⟨rfl, n2, hw10⟩
              obtain rfl : w10 = W9.drewN n2 := hw10
              by_cases hlt : (n : Int) < su
              · obtain ⟨L3, ⟨hl0, hl1⟩, pT, hST⟩ := HN.out hlt
                have PT := Lib.hid pT
                have ST := Lib.hid hST
                have hVV := HV9.out.below (below_drewN (Below.refl _ W9) n2)
                have HBV := Lib.hid (HB9.out.trans ((below_drewN (Below.refl _ W9) n2).mono HB9.out.size))
                generalize W9.drewN n2 = V at *
                obtain ⟨va, vc, hva, hvat⟩ := sent_at2 (hVV.su.l 0 (by omega))
                obtain ⟨wa, wc', hwa, hwat⟩ := sent_at2 (hVV.su.l 1 (by omega))
                obtain ⟨ga, rfl, hga, cga⟩ := hvat n hl0
                obtain ⟨gb, rfl, hgb, cgb⟩ := hwat n hl1
                have d0 := hVV.su.kn.cell 0
                have d1 := hVV.su.kn.cell 1
                simp only [List.getElem?_toArray, List.getElem?_cons_zero, List.getElem?_cons_succ] at d0 d1
                rw [hva] at d0
                rw [hwa] at d1
                have rV : rowIn V.drew k 0 66 = some L := hVV.row
                have rV0 : rowIn V k 0 66 = some L := hVV.row
                have nn0 : (0 : Int) ≤ (n : Int) := by omega
                have nl0 : (n : Int) < ((S 0).length : Int) := by omega
                have nl1 : (n : Int) < ((S 1).length : Int) := by omega
                generalize (S 0).getD n 0 = in0 at *
                generalize (S 1).getD n 0 = in1 at *
                generalize (S 0).length = len0 at *
                generalize (S 1).length = len1 at *
                have HVX := Lib.hid hVV
                clear hVV pT hST HN hvat hwat hva hwa hga hgb hst9 r12 r14 PS9 HV9 HB9 HC heq
                have hV2 := HVX.out.blk
                have hifL : (Try.prog.info? 53).map (·.size) = some L.toArray.size := by obtain ⟨f, LC, -⟩ := HVX.out.st; exact LC.info
                go_upto_region 33 with fail
                refine wp_region_still_tail 12 (by kernel_rfl) (by kernel_rfl) ?_
                simp only [List.take_succ_cons, List.take_zero, List.drop_succ_cons, List.drop_zero]
                refine wpStill_load_blk (by rfl) 53 _ (by rfl) k (by rfl) _ L.toArray _ hV2.drew Try.underlying53 (by rfl) hifL ?_
                repeat still_step
                refine wpStill_nil ?_
                change wpList _ _ _ _ _ (World.drew _)
                go_wp2_with fail
                refine (PT.out _).mono ?_
                rintro e w11 ⟨rfl, h11⟩
                obtain ⟨w12, hst12, hV12⟩ := ST.out w11 (HBV.out.trans ⟨h11.os, h11.tape, h11.output, h11.size, fun kk hkk => h11.block kk (Nat.lt_of_lt_of_le hkk HBV.out.size)⟩)
                have HV12 := Lib.hid hV12
                clear hV12
                iterate 1
                  go_wp2_with fail
                  go_roundw
                  case rel => exact ⟨n + 1, L3, n200, by go_num, HV12.out⟩
                  case measure => simp [intOf]; omega
              · have HSK := Lib.hid ((HV9.out.below (below_drewN (Below.refl _ W9) n2)).skip (by rw [hsf.out]; exact hlt))
                clear HN HV9 HB9 PS9 hst9 r12 r14 HC heq
                go_wp2_with fail
                go_roundw
                case rel => exact ⟨n + 1, L, n200, by go_num, HSK.out⟩
                case measure => simp [intOf]; omega
            · go_wp2_with fail
              refine (PS9.out 0).mono ?_
              rintro e w10 ⟨rfl, n2, hw10⟩
              obtain rfl : w10 = W9.drewN n2 := hw10
              by_cases hlt : (n : Int) < su
              · obtain ⟨L3, ⟨hl0, hl1⟩, pT, hST⟩ := HN.out hlt
                have PT := Lib.hid pT
                have ST := Lib.hid hST
                have hVV := HV9.out.below (below_drewN (Below.refl _ W9) n2)
                have HBV := Lib.hid (HB9.out.trans ((below_drewN (Below.refl _ W9) n2).mono HB9.out.size))
                generalize W9.drewN n2 = V at *
                obtain ⟨va, vc, hva, hvat⟩ := sent_at2 (hVV.su.l 0 (by omega))
                obtain ⟨wa, wc', hwa, hwat⟩ := sent_at2 (hVV.su.l 1 (by omega))
                obtain ⟨ga, rfl, hga, cga⟩ := hvat n hl0
                obtain ⟨gb, rfl, hgb, cgb⟩ := hwat n hl1
                have d0 := hVV.su.kn.cell 0
                have d1 := hVV.su.kn.cell 1
                simp only [List.getElem?_toArray, List.getElem?_cons_zero, List.getElem?_cons_succ] at d0 d1
                rw [hva] at d0
                rw [hwa] at d1
                have rV : rowIn V.drew k 0 66 = some L := hVV.row
                have rV0 : rowIn V k 0 66 = some L := hVV.row
                have nn0 : (0 : Int) ≤ (n : Int) := by omega
                have nl0 : (n : Int) < ((S 0).length : Int) := by omega
                have nl1 : (n : Int) < ((S 1).length : Int) := by omega
                generalize (S 0).getD n 0 = in0 at *
                generalize (S 1).getD n 0 = in1 at *
                generalize (S 0).length = len0 at *
                generalize (S 1).length = len1 at *
                have HVX := Lib.hid hVV
                clear hVV pT hST HN hvat hwat hva hwa hga hgb hst9 r12 r14 PS9 HV9 HB9 HC heq
                have hV2 := HVX.out.blk
                have hifL : (Try.prog.info? 53).map (·.size) = some L.toArray.size := by obtain ⟨f, LC, -⟩ := HVX.out.st; exact LC.info
                go_upto_region 33 with fail
                refine wp_region_still_tail 12 (by kernel_rfl) (by kernel_rfl) ?_
                simp only [List.take_succ_cons, List.take_zero, List.drop_succ_cons, List.drop_zero]
                refine wpStill_load_blk (by rfl) 53 _ (by rfl) k (by rfl) _ L.toArray _ hV2.drew Try.underlying53 (by rfl) hifL ?_
                repeat still_step
                refine wpStill_nil ?_
                change wpList _ _ _ _ _ (World.drew _)
                go_wp2_with fail
                refine (PT.out _).mono ?_
                rintro e w11 ⟨rfl, h11⟩
                obtain ⟨w12, hst12, hV12⟩ := ST.out w11 (HBV.out.trans ⟨h11.os, h11.tape, h11.output, h11.size, fun kk hkk => h11.block kk (Nat.lt_of_lt_of_le hkk HBV.out.size)⟩)
                have HV12 := Lib.hid hV12
                clear hV12
                iterate 1
                  go_wp2_with fail
                  go_roundw
                  case rel => exact ⟨n + 1, L3, n200, by go_num, HV12.out⟩
                  case measure => simp [intOf]; omega
              · have HSK := Lib.hid ((HV9.out.below (below_drewN (Below.refl _ W9) n2)).skip (by rw [hsf.out]; exact hlt))
                clear HN HV9 HB9 PS9 hst9 r12 r14 HC heq
                go_wp2_with fail
                go_roundw
                case rel => exact ⟨n + 1, L, n200, by go_num, HSK.out⟩
                case measure => simp [intOf]; omega
          · rw [hsue] at hS
            have PS := Lib.hid hS
            have HLO := Lib.hid hV.su.lo
            clear hV hS HV hsu hun hsue
            go_wp2_with fail
            refine (PS.out 0).mono ?_
            rintro e w7 ⟨rfl, n1, rfl⟩
            go_wp2_with fail
            go_ret
            exact ⟨rfl, below_drewN HLO.out _⟩
end
end Go.Proofs.Ytckkpgopddnkiaa.Rl
