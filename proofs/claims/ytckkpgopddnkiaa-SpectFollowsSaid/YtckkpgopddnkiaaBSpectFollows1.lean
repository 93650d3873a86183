/-
  Texts joined: RsA, CrcF. No condition.
-/
import Derived.Test.YtckkpgopddnkiaaBRoll16
import Derived.Laws.BitsAllLaws
import Derived.Test.YtckkpgopddnkiaaChecked
import Derived.Deep.Cut
import Derived.StillTailTactics
import Derived.BigRegion
import Derived.Laws.CopyOwn
import Derived.Laws.MakeOwn
namespace Go.Proofs.Ytckkpgopddnkiaa.Rl
open Go.RowKit Go.Sort Go.Proofs.Ytckkpgopddnkiaa.Gm Go.Proofs.Ytckkpgopddnkiaa.RingE Go.Proofs.Ytckkpgopddnkiaa.Inputq
set_option linter.all false

theorem storeNewB (w1 : World) {D : Array Value} {f : F} (LD : Let D f) : ∃ W3, storeR Try.prog 53 (.pointer (some ⟨w1.heap.size, 0, none⟩)) (.agg D) (w1.alloc (.cells Try.zeroCells53 53)) = .ok .skip W3 ∧
    Blk W3 w1.heap.size 53 D ∧ Below w1.heap.size w1 W3 := by
  obtain ⟨Z, LZ⟩ := let_of zF
  have hZ : Try.zeroCells53 = Z := by rw [LZ.eq, ← stA_zero]
  rw [hZ]
  have hb : Blk (w1.alloc (.cells Z 53)) w1.heap.size 53 Z := Blk.new _ _ _
  have ht : (w1.alloc (.cells Z 53)).there w1.heap.size 0 D.size := fun j hj => by
    rw [Nat.zero_add, hb.cell]
    refine ⟨?_, hb.frozen j⟩
    rw [Array.getElem?_eq_getElem (by rw [LZ.size, ← LD.size]; exact hj)]
    rfl
  refine ⟨_, storeR_mid ht LD.info LD.one rfl, ?_, ?_⟩
  · have h2 := setCells_mid D.toList Z.toList [] [] _ (by simpa using hb) (by rw [Array.length_toList, Array.length_toList, LZ.size, LD.size])
    simpa using h2
  · have hT : Touch (fun k => k = w1.heap.size) (w1.alloc (.cells Z 53)) ((w1.alloc (.cells Z 53)).setCells w1.heap.size 0 D.toList) := touch_setCells (S := fun k => k = w1.heap.size) (Touch.refl _ _) _ (.inl rfl) _ _
    exact ((Below.refl _ w1).alloc (Nat.le_refl _) _).trans (hT.below (by simp) (fun k hk => by omega))
theorem made_u16 (n : Nat) : madeCells (Value.cells (.int .u16 0)) n = (u16s (List.replicate n 0)).toArray := by
  apply Array.ext
  · rw [size_madeCells]; simp [u16s]
  · intro i h1 h2
    simp [madeCells, u16s, Value.cells, Nat.mod_one]
theorem mk_inputs (W : World) (n : Nat) (hn : n ≤ 1000) : (Instr.makeSlice 73 (.int .i64 (n : Int)) (.int .i64 (n : Int))).run Try.prog W = .ok (.slice (some ⟨W.heap.size, 0, none⟩) n n) (W.alloc (.cells (u16s (List.replicate n 0)).toArray 33)) := by
  obtain ⟨i0, hi, hz0, hz1, hz2⟩ := info_parts RingInput.info
  have := run_makeSlice (P := Try.prog) W 73 33 i0 (.int .u16 0) Try.underlying73 hi hz0 .i64 .i64 (n : Int) (n : Int) (by omega) (by omega) (by rw [hz1]; simp; omega) (by rw [hz2]; omega) (by omega)
  simp only [Int.toNat_natCast] at this
  rw [hz1, Nat.mul_one, made_u16] at this
  exact this
theorem made_on (W : World) (n : Nat) (hn : n ≤ 1000) : On (W.alloc (.cells (u16s (List.replicate n 0)).toArray 33)) 33 1 (.slice (some ⟨W.heap.size, 0, none⟩) n n) (List.replicate n 0 : List Nat).length (u16s (List.replicate n 0)) := by
  rw [List.length_replicate]
  refine ⟨by simp [u16s], .inr ⟨W.heap.size, n, _, rfl, heap_new W _, Nat.le_refl _, by simp only [maxLen]; omega, by simp [u16s], ?_⟩⟩
  rw [List.take_of_length_le (by simp [u16s])]

/-- The engine, and what was said to it. -/
structure SU (w wr : World) (cf : Cfg) (g d : Nat) (s : SE) (x : H) (v : Nat → Value) (S T : Nat → List Nat) (K : Nat) : Prop where
  ea : s.g = g
  ha : HAt wr cf s x
  j : J cf x
  cfg : Blk wr w.heap.size 58 #[.int .u32 (cf.sd : Int), .int .i64 (cf.lo : Int), .int .i64 cf.de, .int .i64 cf.ah]
  kn : Blk wr d 74 #[v 0, v 1]
  l : ∀ i, i < 2 → On wr 33 1 (v i) (S i).length (u16s (S i))
  q : ∀ i, i < 2 → ∀ k, (v i).ownBlock = some k → ¬ fpE s k ∧ w.heap.size ≤ k
  q01 : ∀ k, (v 0).ownBlock = some k → ¬ (v 1).ownBlock = some k
  lo : Below w.heap.size w wr
  ba : ∀ k, fpE s k → w.heap.size ≤ k
  bd : w.heap.size ≤ d
  ks : ∀ i, i < 2 → x.ks i = T i
  un : x.us.length ≤ K ∧ x.ro ≤ K ∧ x.re ≤ 200 * K
  kk : (x.ks (1 - cf.lo)).length ≤ 8 + K
theorem HAt.other' {wr : World} {c : Cfg} {s : SE} {x : H} (h : HAt wr c s x) {k : Nat} {t : TypeId} {cs : Array Value} (hb : Blk wr k t cs)
    (ht : t ≠ 119 ∧ t ≠ 177 ∧ t ≠ 203 ∧ t ≠ 33 ∧ t ≠ 184 ∧ t ≠ 206 ∧ t ≠ 182) : ¬ fpE s k := by
  obtain ⟨p, C, hE, -⟩ := h
  exact hE.other hb ht
theorem fix_counts' {c : Cfg} {x : H} (j : J c x) : (fixH x).ro ≤ x.ro + 1 ∧ (fixH x).re ≤ x.re + 16 := by
  have hf := j.fromH
  unfold fixH
  split
  · exact ⟨by show x.ro ≤ x.ro + 1; omega, by show x.re ≤ x.re + 16; omega⟩
  · refine ⟨Nat.le_refl _, ?_⟩
    show x.re + fixN x ≤ x.re + 16
    unfold fixN
    omega
theorem adv_hist' {c : Cfg} {x : H} {v : Nat} (j : J c x) (hv : v < 65536) (hn : x.us.length < 110) (hT : ¬ advT c x) :
    (advH c x v).ks = upd x.ks c.lo (x.ks c.lo ++ [v]) ∧ (advH c x v).us.length = x.us.length + 1 ∧ (advH c x v).ro ≤ x.ro + 1 ∧ (advH c x v).re ≤ x.re + 16 := by
  have e : advH c x v = adv3 c x v := by unfold advH; rw [if_neg hT]
  have hc := fix_counts' j
  rw [e]
  exact ⟨(adv1_same j v).1, (adv2_j0 j hv hn).2, hc.1, hc.2⟩
section
variable {w wr W : World} {cf : Cfg} {g d : Nat} {s : SE} {x : H} {v : Nat → Value} {S T : Nat → List Nat} {K : Nat}
theorem SU.below (h : SU w wr cf g d s x v S T K) (hb : Below wr.heap.size wr W) : SU w W cf g d s x v S T K :=
  { h with ha := h.ha.below hb, cfg := h.cfg.below hb h.cfg.lt, kn := h.kn.below hb h.kn.lt, l := fun i hi => (h.l i hi).below hb (h.l i hi).lt, lo := h.lo.trans (hb.mono h.lo.size) }
theorem SU.up (h : SU w wr cf g d s x v S T K) : SU w wr cf g d s x v S T (K + 1) := { h with un := by have := h.un; omega, kk := by have := h.kk; omega }
theorem SU.turn {x' : H} {T' : Nat → List Nat} {K' : Nat} (h : SU w wr cf g d s x v S T K) (ht : HTurn wr cf s x' W) (j : J cf x') (hk : ∀ i, i < 2 → x'.ks i = T' i) (hu : x'.us.length ≤ K' ∧ x'.ro ≤ K' ∧ x'.re ≤ 200 * K') (hkk : (x'.ks (1 - cf.lo)).length ≤ 8 + K') :
    (∃ s', SU w W cf g d s' x' v S T' K') ∧ ∀ k cs, Blk wr k 64 cs → Blk W k 64 cs := by
  obtain ⟨s', es, hA, hT, hF⟩ := ht.at
  have hsz := h.lo.size
  refine ⟨⟨s', ⟨es.1.trans h.ea, hA, j, h.cfg.touch hT (h.ha.other' h.cfg (by decide)), h.kn.touch hT (h.ha.other' h.kn (by decide)), fun i hi => (h.l i hi).touch hT (fun k hk => (h.q i hi k hk).1), fun i hi k hk => ⟨fun h2 => ?_, (h.q i hi k hk).2⟩, h.q01, h.lo.trans (hT.below hsz h.ba), fun k hk => ?_, h.bd, hk, hu, hkk⟩⟩, fun k cs hb => hb.touch hT (h.ha.other' hb (by decide))⟩
  · rcases hF k h2 with a | a
    · exact (h.q i hi k hk).1 a
    · have := (h.l i hi).lt k hk; omega
  · rcases hF k hk with a | a
    · exact h.ba k a
    · omega
theorem SU.adv (h : SU w wr cf g d s x v S T K) (hK : K < 100) (u : Nat) (hu : u < 65536) :
    Calls Try.prog 26 #[.pointer (some ⟨g, 0, none⟩), .int .u16 u] wr fun ee w' => (∀ k cs, Blk wr k 64 cs → Blk w' k 64 cs) ∧
      ((ee = .returned (.int .i64 250) ∧ ∃ s' x', SU w w' cf g d s' x' v S T (K + 1)) ∨
       (ee = .returned (.int .i64 0) ∧ ∃ s' x', SU w w' cf g d s' x' v S (upd T cf.lo (T cf.lo ++ [u])) (K + 1))) := by
  have hun := h.un
  have hlo := h.j.lo
  have hc := advance_h wr cf s x u K h.ha h.j hu (by omega) (by omega) hun.2.1 hun.2.2
  rw [h.ea] at hc
  refine hc.mono fun ee w' ⟨he, ht⟩ => ?_
  by_cases hT : advT cf x
  · have e1 : advE cf x = 250 := if_pos hT
    have e2 : advH cf x u = x := if_pos hT
    rw [e1] at he
    rw [e2] at ht
    obtain ⟨⟨s', h'⟩, hk⟩ := h.turn ht h.j h.ks hun h.kk
    exact ⟨hk, .inl ⟨he, s', x, h'.up⟩⟩
  · have e1 : advE cf x = 0 := if_neg hT
    rw [e1] at he
    obtain ⟨a1, a2, a3, a4⟩ := adv_hist' h.j hu (by omega) hT
    obtain ⟨⟨s', h'⟩, hk⟩ := h.turn (T' := upd T cf.lo (T cf.lo ++ [u])) (K' := K + 1) ht (h.j.adv hu (by omega)) (fun i hi => by
      rw [a1]
      by_cases e : i = cf.lo
      · subst e; rw [upd_at, upd_at, h.ks _ hi]
      · rw [upd_ne _ _ e, upd_ne _ _ e, h.ks _ hi]) (by omega) (by
      rw [a1, upd_ne _ _ (by omega)]; have := h.kk; omega)
    exact ⟨hk, .inr ⟨he, s', _, h'⟩⟩
theorem SU.rem (h : SU w wr cf g d s x v S T K) (hK : K < 100) (u : Nat) (hu : u < 65536) :
    Calls Try.prog 27 #[.pointer (some ⟨g, 0, none⟩), .int .u16 u] wr fun ee w' => (∀ k cs, Blk wr k 64 cs → Blk w' k 64 cs) ∧ (∃ z, ee = .returned (.tuple #[.int .i64 z, .int .i64 0])) ∧
      ∃ s' x', SU w w' cf g d s' x' v S (upd T (1 - cf.lo) (T (1 - cf.lo) ++ [u])) (K + 1) := by
  have hun := h.un
  have hlo := h.j.lo
  have hi : 1 - cf.lo < 2 := by omega
  have hkk := h.kk
  have hc := addRemote_h h.ha h.j u
  rw [h.ea] at hc
  refine hc.mono fun ee w' ⟨he, ht⟩ => ?_
  have hnt : ¬ addHT cf x := by unfold addHT; omega
  have er : addHR cf x u = addH x (1 - cf.lo) u := by unfold addHR; rw [if_neg hnt]
  have ec : addHC cf x = 0 := by unfold addHC; rw [if_neg hnt]
  have jj := h.j.addR (v := u) hu
  rw [er] at ht jj
  rw [ec] at he
  obtain ⟨⟨s', h'⟩, hk⟩ := h.turn (T' := upd T (1 - cf.lo) (T (1 - cf.lo) ++ [u])) (K' := K + 1) ht jj (fun i hi2 => by
    show upd x.ks (1 - cf.lo) (x.ks (1 - cf.lo) ++ [u]) i = _
    by_cases e : i = 1 - cf.lo
    · subst e; rw [upd_at, upd_at, h.ks _ hi2]
    · rw [upd_ne _ _ e, upd_ne _ _ e, h.ks _ hi2]) (by show x.us.length ≤ K + 1 ∧ x.ro ≤ K + 1 ∧ x.re ≤ 200 * (K + 1); omega) (by
    show (upd x.ks (1 - cf.lo) (x.ks (1 - cf.lo) ++ [u]) (1 - cf.lo)).length ≤ _
    rw [upd_at, List.length_append, List.length_singleton]; omega)
  exact ⟨hk, ⟨_, he⟩, s', _, h'⟩
theorem SU.fix (h : SU w wr cf g d s x v S T K) (hK : K < 100) :
    Calls Try.prog 28 #[.pointer (some ⟨g, 0, none⟩)] wr fun ee w' => (∃ z, ee = .returned (.int .i64 z)) ∧ ∃ s' x', SU w w' cf g d s' x' v S T (K + 1) := by
  have hun := h.un
  have hc := fix_h h.ha h.j K (by omega) hun.2.1 hun.2.2
  rw [h.ea] at hc
  refine hc.mono fun ee w' ⟨he, ht⟩ => ?_
  have hfc := fix_counts' h.j
  obtain ⟨⟨s', h'⟩, hk⟩ := h.turn (T' := T) (K' := K + 1) ht h.j.fix (fun i hi => by rw [(fixH_same x).1]; exact h.ks i hi) (by rw [fixH_len h.j]; omega) (by rw [(fixH_same x).1]; have := h.kk; omega)
  exact ⟨⟨_, he⟩, s', _, h'⟩
/-- An append to a list. -/
theorem SU.app (h : SU w wr cf g d s x v S T K) {i : Nat} (hi : i < 2) (hS : (S i).length ≤ 1000) (u : Nat) (n : Nat) :
    ∃ a2 c2 w3, (appI #[73, 73] 73 #[v i, .slice (some ⟨wr.heap.size, 0, none⟩) 1 1]).run Try.prog ((wr.alloc (.cells #[.int .u16 (u : Int)] 33)).drewN n) = .ok (.slice a2 ((S i).length + 1) c2) w3 ∧ Blk w3 d 74 #[v 0, v 1] ∧ Blk w3 w.heap.size 58 #[.int .u32 (cf.sd : Int), .int .i64 (cf.lo : Int), .int .i64 cf.de, .int .i64 cf.ah] ∧
      ∃ v', SU w (w3.setCell ⟨d, i, none⟩ (.slice a2 ((S i).length + 1) c2)) cf g d s x v' (upd S i (S i ++ [u])) T K := by
  have h1 := (h.below ((Below.refl _ wr).alloc (Nat.le_refl _) (.cells #[.int .u16 (u : Int)] 33))).below (below_drewN (Below.refl _ _) n)
  obtain ⟨a2, c2, w3, hrun, hon, hg, hown⟩ := app_one _ (v i) (S i) wr.heap.size u (h1.l i hi) ((Blk.new _ _ _).drewN n) hS
  have hT : Touch (fun k => (v i).ownBlock = some k) ((wr.alloc (.cells #[.int .u16 (u : Int)] 33)).drewN n) w3 := (Touch.refl _ _).grown hg (fun k hk => .inl hk)
  have nd : ¬ (v i).ownBlock = some d := On.blk_ne (h1.l i hi) h1.kn (by decide)
  have nc : ¬ (v i).ownBlock = some w.heap.size := On.blk_ne (h1.l i hi) h1.cfg (by decide)
  have hd := h1.kn.touch hT nd
  have hcf := h1.cfg.touch hT nc
  have hsz := h1.lo.size
  refine ⟨a2, c2, w3, hrun, hd, hcf, upd v i (.slice a2 ((S i).length + 1) c2), ?_⟩
  have hA := h1.ha.touch hT (fun k hk hk2 => (h1.q i hi k hk2).1 hk)
  have hT2 := touch_g w3 d i (.slice a2 ((S i).length + 1) c2)
  have nda := hA.other' hd (by decide)
  have hoth : ∀ k, k < 2 → ¬ k = i → ∀ b, (v k).ownBlock = some b → ¬ (v i).ownBlock = some b := fun k hk hki b hb hb2 => by
    obtain ⟨rfl, rfl⟩ | ⟨rfl, rfl⟩ : k = 0 ∧ i = 1 ∨ k = 1 ∧ i = 0 := by omega
    · exact h1.q01 b hb hb2
    · exact h1.q01 b hb2 hb
  have hlo : Below w.heap.size w w3 := h1.lo.trans (hT.below hsz (fun k hk => (h1.q i hi k hk).2))
  refine { h1 with ha := hA.touch hT2 (fun k hk e => nda (e ▸ hk)), cfg := hcf.touch hT2 (fun e => Blk.ne_ hd hcf (by decide) e.symm), kn := ?_, l := fun k hk => ?_, q := fun k hk b hb => ?_, q01 := fun b h0 h1' => ?_, lo := hlo.setCell h1.bd _ }
  · have := hd.set_ i (.slice a2 ((S i).length + 1) c2)
    obtain rfl | rfl : i = 0 ∨ i = 1 := by omega
    · exact this
    · exact this
  · by_cases e : k = i
    · subst e
      rw [upd_at, upd_at]
      exact hon.touch hT2 (fun b hb e => On.blk_ne hon hd (by decide) (e ▸ hb))
    · rw [upd_ne _ _ e, upd_ne _ _ e]
      have hk1 := (h1.l k hk).touch hT (fun b hb => hoth k hk e b hb)
      exact hk1.touch hT2 (fun b hb e => On.blk_ne hk1 hd (by decide) (e ▸ hb))
  · by_cases e : k = i
    · subst e
      rw [upd_at] at hb
      rcases hown b hb with a | a
      · exact h1.q k hk b a
      · refine ⟨fun h2 => ?_, by rw [a]; exact hsz⟩
        have := h1.ha.lt b h2; omega
    · rw [upd_ne _ _ e] at hb
      exact h1.q k hk b hb
  · by_cases e : i = 0
    · subst e
      rw [upd_at] at h0
      rw [upd_ne _ _ (by omega)] at h1'
      rcases hown b h0 with a | a
      · exact h1.q01 b a h1'
      · have := (h1.l 1 (by omega)).lt b h1'; omega
    · have e' : i = 1 := by omega
      subst e'
      rw [upd_at] at h1'
      rw [upd_ne _ _ (by omega)] at h0
      rcases hown b h1' with a | a
      · exact h1.q01 b h0 a
      · have := (h1.l 0 (by omega)).lt b h0; omega
end
/-- What the law asks behind each operation. -/
theorem SU.check {w wr : World} {cf : Cfg} {g d : Nat} {s : SE} {x : H} {v : Nat → Value} {S : Nat → List Nat} {K : Nat} (h : SU w wr cf g d s x v S S K) :
    ∃ fr cc su : Int, (-1000 ≤ cc ∧ cc ≤ 1000) ∧ fr ≤ cc + cf.ah ∧ su ≤ fr ∧ su ≤ (S 0).length ∧ su ≤ (S 1).length ∧
      (∀ j, Calls Try.prog 34 #[.pointer (some ⟨g, 0, none⟩)] (wr.drewN j) fun e w' => e = .returned (.int .i64 fr) ∧ w' = wr.drewN j) ∧
      (∀ j, Calls Try.prog 35 #[.pointer (some ⟨g, 0, none⟩)] (wr.drewN j) fun e w' => e = .returned (.int .i64 cc) ∧ ∃ m, w' = (wr.drewN j).drewN m) ∧
      (∀ j, Calls Try.prog 30 #[.pointer (some ⟨g, 0, none⟩)] (wr.drewN j) fun e w' => e = .returned (.int .i64 su) ∧ ∃ m, w' = (wr.drewN j).drewN m) := by
  have hs := sureH_le x
  rw [h.ks 0 (by omega), h.ks 1 (by omega)] at hs
  have hc := minI_le (x.ks 0).length (x.ks 1).length
  have ec : confH x = minI (x.ks 0).length (x.ks 1).length := rfl
  have k0 := h.j.kn 0 (by omega)
  have k1 := h.j.kn 1 (by omega)
  have n0 := h.j.nc 0 (by omega)
  have n1 := h.j.nc 1 (by omega)
  refine ⟨x.us.length, confH x, sureH x, by omega, by omega, hs.1, hs.2.1, hs.2.2.1, fun j => ?_, fun j => ?_, fun j => ?_⟩
  · have := frame_h (h.ha.below (below_drewN (Below.refl _ wr) j)) h.j.j0
    rw [h.ea] at this
    exact frame_any _ g _ this
  · have := conf_h (h.ha.below (below_drewN (Below.refl _ wr) j)) h.j.j0
    rw [h.ea] at this
    exact this
  · have := sure_h (h.ha.below (below_drewN (Below.refl _ wr) j)) h.j.j0
    rw [h.ea] at this
    exact this
/-- A list of inputs, in memory. -/
theorem sent_at2 {wr : World} {v : Value} {S : List Nat} (h : On wr 33 1 v S.length (u16s S)) : ∃ a c, v = .slice a S.length c ∧ ∀ i, i < S.length → ∃ g, a = some ⟨g, 0, none⟩ ∧ g < wr.heap.size ∧ wr.cell? ⟨g, i, none⟩ = some (.int .u16 ((S.getD i 0 : Nat) : Int)) := by
  rcases h.form with ⟨rfl, h0, _⟩ | ⟨g, cap, hv, hnc, hcm, hown, hlt, hc, hf⟩
  · exact ⟨none, 0, by rw [h0], fun i hi => by omega⟩
  · refine ⟨_, cap, hv, fun i hi => ⟨g, rfl, hlt, hc i _ ?_⟩⟩
    unfold u16s
    rw [List.getElem?_map, List.getD_eq_getElem?_getD, List.getElem?_eq_getElem hi]
    rfl
theorem heap3 (w : World) (A B C : Obj) : (((w.alloc A).alloc B).alloc C).drew.heap[w.heap.size]? = some A ∧ (((w.alloc A).alloc B).alloc C).drew.heap[w.heap.size + 1]? = some B ∧ (((w.alloc A).alloc B).alloc C).drew.heap[w.heap.size + 1 + 1]? = some C ∧ Below w.heap.size w (((w.alloc A).alloc B).alloc C).drew := by
  refine ⟨?_, ?_, ?_, ((((Below.refl _ w).alloc (Nat.le_refl _) _).alloc (by simp) _).alloc (by simp; omega) _).drew⟩
  · exact (heap_old _ C (by simp; omega)).trans ((heap_old _ B (by simp)).trans (heap_new w A))
  · refine (heap_old _ C (by simp)).trans ?_
    have := heap_new (w.alloc A) B
    rw [show (w.alloc A).heap.size = w.heap.size + 1 by simp] at this
    exact this
  · have := heap_new ((w.alloc A).alloc B) C
    rw [show ((w.alloc A).alloc B).heap.size = w.heap.size + 1 + 1 by simp] at this
    exact this
/-- The lists are made. -/
theorem SU.start {w wr W : World} {cf : Cfg} {s : SE} {n d i0 i1 : Nat} (hde : cf.de = n) (hn : n ≤ 8) (hB : Below w.heap.size w wr) (ha : HAt wr cf s (newH cf)) (j : J cf (newH cf)) (hf : ∀ k, fpE s k → w.heap.size ≤ k)
    (cfg : Blk wr w.heap.size 58 #[.int .u32 (cf.sd : Int), .int .i64 (cf.lo : Int), .int .i64 cf.de, .int .i64 cf.ah]) (hb : Below wr.heap.size wr W)
    (hd : W.heap[d]? = some (.cells #[.slice (some ⟨i0, 0, none⟩) n n, .slice (some ⟨i1, 0, none⟩) n n] 74 (0, 0)))
    (h0 : W.heap[i0]? = some (.cells (u16s (List.replicate n 0)).toArray 33 (0, 0))) (h1 : W.heap[i1]? = some (.cells (u16s (List.replicate n 0)).toArray 33 (0, 0)))
    (hne : ¬ i0 = i1) (b0 : wr.heap.size ≤ i0) (b1 : wr.heap.size ≤ i1) (bd : wr.heap.size ≤ d) :
    SU w W cf s.g d s (newH cf) (fun i => if i = 0 then .slice (some ⟨i0, 0, none⟩) n n else .slice (some ⟨i1, 0, none⟩) n n) (fun _ => List.replicate n 0) (fun _ => List.replicate n 0) 0 := by
  have hz := hB.size
  have hk : ∀ i, (newH cf).ks i = List.replicate n 0 := fun i => by
    show List.replicate cf.de.toNat 0 = _
    rw [hde, Int.toNat_natCast]
  have on : ∀ i, W.heap[i]? = some (.cells (u16s (List.replicate n 0)).toArray 33 (0, 0)) → On W 33 1 (.slice (some ⟨i, 0, none⟩) n n) (List.replicate n 0 : List Nat).length (u16s (List.replicate n 0)) := fun i hi => by
    rw [List.length_replicate]
    exact ⟨by simp [u16s], .inr ⟨i, n, _, rfl, hi, Nat.le_refl _, by simp only [maxLen]; omega, by simp [u16s], by rw [List.take_of_length_le (by simp [u16s])]⟩⟩
  refine ⟨rfl, ha.below hb, j, cfg.below hb cfg.lt, hd, fun i hi => ?_, fun i hi k hk2 => ?_, fun k hk2 hk3 => ?_, hB.trans (hb.mono hz), hf, by omega, fun i hi => hk i, by simp [newH], ?_⟩
  · obtain rfl | rfl : i = 0 ∨ i = 1 := by omega
    · exact on _ h0
    · exact on _ h1
  · obtain rfl | rfl : i = 0 ∨ i = 1 := by omega
    · have e : i0 = k := by simpa [Value.ownBlock] using hk2
      exact ⟨fun h2 => by have := ha.lt k h2; omega, by omega⟩
    · have e : i1 = k := by simpa [Value.ownBlock] using hk2
      exact ⟨fun h2 => by have := ha.lt k h2; omega, by omega⟩
  · have e : i0 = k := by simpa [Value.ownBlock] using hk2
    have e' : i1 = k := by simpa [Value.ownBlock] using hk3
    omega
  · rw [hk, List.length_replicate]
    omega
end Go.Proofs.Ytckkpgopddnkiaa.Rl
namespace Go.Proofs.Ytckkpgopddnkiaa.Crc
set_option linter.all false

def one (r : Nat) : Nat := if r % 2 = 1 then (r / 2) ^^^ 3988292384 else r / 2
def ones : Nat → Nat → Nat
  | 0, r => r
  | k + 1, r => ones k (one r)
def stepN (r b : Nat) : Nat := ones 8 (r ^^^ b)
def moreN (r : Nat) (l : List Nat) : Nat := l.foldl stepN r
def sumN (l : List Nat) : Nat := 4294967295 ^^^ moreN 4294967295 l

theorem one_lt {r : Nat} (h : r < 4294967296) : one r < 4294967296 := by
  unfold one
  split
  · have : (r / 2) ^^^ 3988292384 < 2 ^ 32 := Nat.xor_lt_two_pow (by omega) (by omega)
    omega
  · omega
theorem ones_lt : ∀ (k : Nat) {r : Nat}, r < 4294967296 → ones k r < 4294967296
  | 0, _, h => h
  | k + 1, _, h => ones_lt k (one_lt h)
theorem ones_succ : ∀ (k r : Nat), ones (k + 1) r = one (ones k r)
  | 0, _ => rfl
  | k + 1, r => ones_succ k (one r)
theorem xor_lt {a b : Nat} (ha : a < 4294967296) (hb : b < 4294967296) : a ^^^ b < 4294967296 := by
  have : a ^^^ b < 2 ^ 32 := Nat.xor_lt_two_pow (by omega) (by omega)
  omega
theorem stepN_lt {r b : Nat} (h : r < 4294967296) (hb : b < 256) : stepN r b < 4294967296 := ones_lt 8 (xor_lt h (by omega))
theorem moreN_lt : ∀ (l : List Nat) {r : Nat}, r < 4294967296 → (∀ b ∈ l, b < 256) → moreN r l < 4294967296
  | [], _, h, _ => h
  | b :: l, _, h, hb => moreN_lt l (stepN_lt h (hb b (by simp))) (fun x hx => hb x (by simp [hx]))
theorem sumN_lt {l : List Nat} (hb : ∀ b ∈ l, b < 256) : sumN l < 4294967296 := xor_lt (by omega) (moreN_lt l (by omega) hb)
theorem moreN_snoc (r : Nat) (l : List Nat) (b : Nat) : moreN r (l ++ [b]) = stepN (moreN r l) b := by simp [moreN]

theorem xor_div (a b : Nat) : (a ^^^ b) / 2 = a / 2 ^^^ b / 2 := by
  apply Nat.eq_of_testBit_eq
  intro i
  simp [Nat.testBit_div_two]
theorem xor_odd (a b : Nat) : (a ^^^ b) % 2 = (a % 2 + b % 2) % 2 := by
  have h := Nat.xor_mod_two_pow (a := a) (b := b) (n := 1)
  simp only [Nat.pow_one] at h
  rw [h]
  rcases Nat.mod_two_eq_zero_or_one a with ha | ha <;> rcases Nat.mod_two_eq_zero_or_one b with hb | hb <;> rw [ha, hb] <;> rfl
theorem one_xor (a b : Nat) : one (a ^^^ b) = one a ^^^ one b := by
  unfold one
  rw [xor_div, xor_odd]
  rcases Nat.mod_two_eq_zero_or_one a with ha | ha <;> rcases Nat.mod_two_eq_zero_or_one b with hb | hb <;> rw [ha, hb]
  · simp
  · simp [Nat.xor_assoc]
  · simp only [Nat.reduceAdd, Nat.reduceMod, ↓reduceIte, Nat.one_ne_zero, Nat.zero_ne_one]
    rw [Nat.xor_assoc, Nat.xor_comm (b / 2), ← Nat.xor_assoc]
  · simp only [Nat.reduceAdd, Nat.reduceMod, ↓reduceIte, Nat.one_ne_zero, Nat.zero_ne_one]
    rw [Nat.xor_assoc, ← Nat.xor_assoc 3988292384, Nat.xor_comm 3988292384, Nat.xor_assoc (b / 2), Nat.xor_self, Nat.xor_zero]
theorem ones_xor : ∀ (k a b : Nat), ones k (a ^^^ b) = ones k a ^^^ ones k b
  | 0, _, _ => rfl
  | k + 1, a, b => by
    show ones k (one (a ^^^ b)) = _
    rw [one_xor, ones_xor k]
    rfl
theorem ones_shift : ∀ (k m : Nat), ones k (m * 2 ^ k) = m
  | 0, m => by simp [ones]
  | k + 1, m => by
    show ones k (one (m * 2 ^ (k + 1))) = m
    have e : one (m * 2 ^ (k + 1)) = m * 2 ^ k := by
      have : m * 2 ^ (k + 1) = 2 * (m * 2 ^ k) := by rw [Nat.pow_succ]; ac_rfl
      unfold one
      rw [this, if_neg (by omega)]
      omega
    rw [e]
    exact ones_shift k m
theorem split8 (r : Nat) : r = (r % 256) ^^^ (r / 256 * 2 ^ 8) := by
  apply Nat.eq_of_testBit_eq
  intro i
  rw [Nat.testBit_xor, show (256 : Nat) = 2 ^ 8 from rfl, Nat.testBit_mod_two_pow, Nat.testBit_mul_two_pow, Nat.testBit_div_two_pow]
  by_cases h : i < 8
  · have h2 : ¬ i ≥ 8 := by omega
    simp [h, h2]
  · have h2 : i ≥ 8 := by omega
    simp [h, h2] <;> (congr 1; omega)
/-- A byte's step by the table. -/
theorem step_table (r b : Nat) : stepN r b = stepN 0 ((r % 256) ^^^ b) ^^^ r / 256 := by
  unfold stepN
  conv => lhs; rw [split8 r]
  rw [Nat.xor_assoc, Nat.xor_comm (r / 256 * 2 ^ 8), ← Nat.xor_assoc, ones_xor, ones_shift, Nat.zero_xor]
end Go.Proofs.Ytckkpgopddnkiaa.Crc
namespace Go.Proofs.Ytckkpgopddnkiaa.Crc
open Go.RowKit
set_option linter.all false

set_option maxRecDepth 100000 in
set_option maxHeartbeats 2000000 in
theorem cstep_any (w : World) (r b : Nat) (hr : r < 4294967296) (hb : b < 256) :
    Calls Try.prog 97 #[.int .u32 (r : Int), .int .u8 (b : Int)] w fun e w' => e = .returned (.int .u32 (stepN r b : Nat)) ∧ w = w' := by
  have hx := u32_xor_nat r b hr (by omega)
  have hw : IntKind.u32.wrap (b : Int) = (b : Int) := by rw [IntKind.wrap_u32']; omega
  go_enter Try.func97, Try.ntmps97
  go_wp2_with fail
  go_loopw [0, 9] (fun x i wr => ∃ k y : Nat, k ≤ 8 ∧ i = .int .i64 (k : Int) ∧ x = .int .u32 (y : Int) ∧ y < 4294967296 ∧ ones (8 - k) y = stepN r b ∧ wr = w) (fun _ i _ => (8 - intOf i).toNat)
  case atStart => exact ⟨0, r ^^^ b, by omega, rfl, rfl, xor_lt hr (by omega), rfl, rfl⟩
  case round =>
    obtain ⟨k, y, hk, rfl, rfl, hy, ho, rfl⟩ := hrel
    clear hx hw
    by_cases hlt : k < 8
    · have hlt' : (k : Int) < 8 := by omega
      have hk0 : (0 : Int) ≤ (k : Int) := by omega
      have ha := u32_and_nat y 1 hy (by omega)
      rw [nat_mask1] at ha
      have hx := u32_xor_nat (y / 2) 3988292384 (by omega) (by omega)
      have hd : ((y / 2 : Nat) : Int) = (y : Int) / 2 := by omega
      rw [hd] at hx
      have HD := Lib.hid hd
      obtain ⟨z, hz⟩ : ∃ z, z = one y := ⟨_, rfl⟩
      have HO : Hid (ones (8 - (k + 1)) z = stepN r b) := Lib.hid (by
        rw [← ho, hz]
        obtain ⟨j, hj⟩ : ∃ j, 8 - k = j + 1 := ⟨7 - k, by omega⟩
        rw [hj, show 8 - (k + 1) = j by omega]
        rfl)
      have HL : Hid (z < 4294967296) := Lib.hid (by rw [hz]; exact one_lt hy)
      by_cases hodd : y % 2 = 1
      · have h1 : one y = (y / 2) ^^^ 3988292384 := by unfold one; rw [if_pos hodd]
        rw [hodd] at ha
        have ha' : bits .and .u32 (y : Int) 1 = 1 := ha
        rw [← h1, ← hz] at hx
        have hx' : bits .xor .u32 ((y : Int) / 2) 3988292384 = (z : Int) := hx
        clear h1 ho hodd ha hx hz hd
        go_wp2_with fail
        exact ⟨⟨k + 1, z, by omega, by simp, rfl, HL.out, HO.out, trivial⟩, by simp [intOf]; omega⟩
      · have h1 : z = y / 2 := by rw [hz]; unfold one; rw [if_neg hodd]
        have hod : y % 2 = 0 := by omega
        rw [hod] at ha
        have ha' : bits .and .u32 (y : Int) 1 = 0 := ha
        have H1 := Lib.hid h1
        clear h1 ho hodd ha hx hz hd hod
        go_wp2_with fail
        exact ⟨⟨k + 1, z, by omega, by simp, by rw [H1.out, HD.out], HL.out, HO.out, trivial⟩, by simp [intOf]; omega⟩
    · obtain rfl : k = 8 := by omega
      have hz : y = stepN r b := ho
      go_wp2_with fail
      go_ret
      exact ⟨ret_int (by rw [hz]), rfl⟩

set_option maxRecDepth 100000 in
set_option maxHeartbeats 1000000 in
theorem rone_any (w : World) (y : Nat) (hy : y < 4294967296) :
    Calls Try.prog 158 #[.int .u32 (y : Int)] w fun e w' => e = .returned (.int .u32 (one y : Nat)) ∧ w = w' := by
  have hx := u32_xor_nat (y / 2) 3988292384 (by omega) (by omega)
  have hd : ((y / 2 : Nat) : Int) = (y : Int) / 2 := by omega
  rw [hd] at hx
  have hx' : bits .xor .u32 ((y : Int) / 2) 3988292384 = ((y / 2 ^^^ 3988292384 : Nat) : Int) := hx
  obtain ⟨z, hz⟩ : ∃ z, z = one y := ⟨_, rfl⟩
  have HD := Lib.hid hd
  clear hx hd
  rw [← hz]
  by_cases hodd : y % 2 = 1
  · have h1 : one y = (y / 2) ^^^ 3988292384 := by unfold one; rw [if_pos hodd]
    rw [← h1, ← hz] at hx'
    have hm : (y : Int) % 2 = 1 := by omega
    clear h1 hz hodd
    go_enter Try.func158, Try.ntmps158
    go_wp2_with fail
    go_ret
    exact ⟨rfl, rfl⟩
  · have h1 : z = y / 2 := by rw [hz]; unfold one; rw [if_neg hodd]
    have hm : (y : Int) % 2 = 0 := by omega
    have H1 := Lib.hid h1
    clear h1 hz hodd hx'
    go_enter Try.func158, Try.ntmps158
    go_wp2_with fail
    go_ret
    exact ⟨ret_int (by rw [H1.out, HD.out]), rfl⟩

set_option maxRecDepth 100000 in
set_option maxHeartbeats 2000000 in
theorem rstep_any (w : World) (r b : Nat) (hr : r < 4294967296) (hb : b < 256) :
    Calls Try.prog 142 #[.int .u32 (r : Int), .int .u8 (b : Int)] w fun e w' => e = .returned (.int .u32 (stepN r b : Nat)) ∧ w = w' := by
  have hx := u32_xor_nat r b hr (by omega)
  have hw : IntKind.u32.wrap (b : Int) = (b : Int) := by rw [IntKind.wrap_u32']; omega
  go_enter Try.func142, Try.ntmps142
  go_wp2_with fail
  go_loopw [0, 5] (fun x i wr => ∃ k y : Nat, k ≤ 8 ∧ i = .int .i64 (k : Int) ∧ x = .int .u32 (y : Int) ∧ y < 4294967296 ∧ ones (8 - k) y = stepN r b ∧ wr = w) (fun _ i _ => (8 - intOf i).toNat)
  case atStart => exact ⟨0, r ^^^ b, by omega, rfl, rfl, xor_lt hr (by omega), rfl, rfl⟩
  case round =>
    obtain ⟨k, y, hk, rfl, rfl, hy, ho, rfl⟩ := hrel
    clear hx hw
    by_cases hlt : k < 8
    · have hlt' : (k : Int) < 8 := by omega
      have hk0 : (0 : Int) ≤ (k : Int) := by omega
      have p := Lib.hid (rone_any wr y hy)
      obtain ⟨z, hz⟩ : ∃ z, z = one y := ⟨_, rfl⟩
      rw [← hz] at p
      have HO : Hid (ones (8 - (k + 1)) z = stepN r b) := Lib.hid (by
        rw [← ho, hz]
        obtain ⟨j, hj⟩ : ∃ j, 8 - k = j + 1 := ⟨7 - k, by omega⟩
        rw [hj, show 8 - (k + 1) = j by omega]
        rfl)
      have HL : Hid (z < 4294967296) := Lib.hid (by rw [hz]; exact one_lt hy)
      clear hz ho
      go_wp2_with fail
      refine p.out.mono ?_
      rintro e w2 ⟨rfl, rfl⟩
      go_wp2_with fail
      exact ⟨⟨k + 1, z, by omega, by simp, rfl, HL.out, HO.out, trivial⟩, by simp [intOf]; omega⟩
    · obtain rfl : k = 8 := by omega
      have hz : y = stepN r b := ho
      go_wp2_with fail
      go_ret
      exact ⟨ret_int (by rw [hz]), rfl⟩
end Go.Proofs.Ytckkpgopddnkiaa.Crc
namespace Go.Proofs.Ytckkpgopddnkiaa.Crc
open Go.RowKit
set_option linter.all false

/-- The first n rows of a table in memory. -/
def Rows (w : World) (g n : Nat) : Prop := ∃ cs : Array Value, Blk w g 157 cs ∧ cs.size = 256 ∧ ∀ i, i < n → cs[i]? = some (.int .u32 (stepN 0 i : Nat))
theorem Rows.cell {w : World} {g n i : Nat} (h : Rows w g n) (hi : i < n) : w.cell? ⟨g, i, none⟩ = some (.int .u32 (stepN 0 i : Nat)) := by
  obtain ⟨cs, hb, _, hc⟩ := h
  exact (hb.cell i).trans (hc i hi)
theorem Rows.below {w w' : World} {g n : Nat} (h : Rows w g n) (hb : Below w.heap.size w w') : Rows w' g n := by
  obtain ⟨cs, hk, hs, hc⟩ := h
  exact ⟨cs, hk.below hb hk.lt, hs, hc⟩
theorem Rows.lt {w : World} {g n : Nat} (h : Rows w g n) : g < w.heap.size := by
  obtain ⟨cs, hk, _⟩ := h
  exact hk.lt

set_option maxRecDepth 100000 in
set_option maxHeartbeats 4000000 in
theorem cnew_any (w : World) :
    Calls Try.prog 49 #[] w fun e w' => e = .returned (.pointer (some ⟨w.heap.size, 0, none⟩)) ∧ Rows w' w.heap.size 256 ∧ Below w.heap.size w w' := by
  obtain ⟨Z, hZ⟩ : ∃ Z, Try.zeroCells157 = Z := ⟨_, rfl⟩
  have hzs : Z.size = 256 := by rw [← hZ]; kernel_rfl
  obtain ⟨W1, hW1⟩ : ∃ W1, W1 = w.alloc (.cells Z 157) := ⟨_, rfl⟩
  have hX : Blk W1 w.heap.size 157 Z := by rw [hW1]; exact Blk.new _ _ _
  have hB : Below w.heap.size w W1 := by rw [hW1]; exact (Below.refl _ w).alloc (Nat.le_refl _) _
  go_enter Try.func49, Try.ntmps49
  go_upto_region 2 with fail
  rw [← hW1]
  clear hW1 hZ
  have HX := Lib.hid hX
  have HB := Lib.hid hB
  clear hX hB
  go_wp2_with fail
  go_loopw [5] (fun i wr => ∃ k : Nat, k ≤ 256 ∧ i = .int .i64 (k : Int) ∧ Rows wr w.heap.size k ∧ Below w.heap.size w wr) (fun i _ => (256 - intOf i).toNat)
  case atStart => exact ⟨0, by omega, rfl, ⟨Z, HX.out, hzs, fun i hi => by omega⟩, HB.out⟩
  case round =>
    obtain ⟨k, hk, rfl, ⟨cs, hT, hcs, hrow⟩, hb⟩ := hrel
    by_cases hlt : k < 256
    · have hlt' : (k : Int) < 256 := by omega
      have hk0 : (0 : Int) ≤ (k : Int) := by omega
      have hw : IntKind.u8.wrap (k : Int) = (k : Int) := by rw [IntKind.wrap_u8']; omega
      have p := Lib.hid (show ∀ W : World, Calls Try.prog 97 #[.int .u32 0, .int .u8 (k : Int)] W fun e w' => e = .returned (.int .u32 (stepN 0 k : Nat)) ∧ W = w' from fun W => cstep_any W 0 k (by omega) hlt)
      have hf := hT.frozen k
      have hc : (wr.cell? ⟨w.heap.size, k, none⟩).isSome = true := by rw [hT.cell k, Array.getElem?_eq_getElem (by omega)]; rfl
      obtain ⟨v, hv⟩ := Option.isSome_iff_exists.1 hc
      have HT := Lib.hid hT
      have HROW := Lib.hid hrow
      have HC := Lib.hid hcs
      clear hT hrow hc hcs
      obtain ⟨s, hs⟩ : ∃ s, s = stepN 0 k := ⟨_, rfl⟩
      have HSk := Lib.hid hs
      rw [← hs] at p
      clear hs
      go_upto_region 5 with fail
      go_region_law ((go_simp; go_at_call 97; refine (p.out _).mono ?_; rintro e w2 ⟨rfl, rfl⟩))
      all_goals
        go_wp2_with fail
        refine ⟨⟨k + 1, by omega, by simp, ⟨cs.setIfInBounds k (.int .u32 (s : Int)), HT.out.set_ k _, by rw [Array.size_setIfInBounds]; exact HC.out, fun i hi => ?_⟩, below_drewN (hb.setCell (p := ⟨w.heap.size, k, none⟩) (Nat.le_refl _) _) 1⟩, by simp [intOf]; omega⟩
        have hcs := HC.out
        by_cases e : i = k
        · subst e
          rw [Array.getElem?_setIfInBounds_self_of_lt (by omega), HSk.out]
        · rw [Array.getElem?_setIfInBounds_ne (fun h => e h.symm)]
          exact HROW.out i (by omega)
    · obtain rfl : k = 256 := by omega
      have HR := Lib.hid (show Rows wr w.heap.size 256 from ⟨cs, hT, hcs, hrow⟩)
      clear hT hrow hcs
      go_wp2_with fail
      go_ret
      exact ⟨rfl, HR.out, hb⟩
end Go.Proofs.Ytckkpgopddnkiaa.Crc
namespace Go.Proofs.Ytckkpgopddnkiaa.Crc
open Go.RowKit
set_option linter.all false

def nb (zs : List Int) : List Nat := zs.map Int.toNat
theorem nb_lt {zs : List Int} (h : ∀ z ∈ zs, 0 ≤ z ∧ z < 256) : ∀ b ∈ nb zs, b < 256 := by
  intro b hb
  obtain ⟨z, hz, rfl⟩ := List.mem_map.1 hb
  have := h z hz
  omega
theorem nb_take (zs : List Int) (k : Nat) (h : k < zs.length) : nb (zs.take (k + 1)) = nb (zs.take k) ++ [(nth zs k).toNat] := by
  unfold nb nth
  rw [List.take_succ, List.getElem?_eq_getElem h, List.map_append]
  simp [List.getD, h]
theorem nth_in {zs : List Int} (h : ∀ z ∈ zs, 0 ≤ z ∧ z < 256) {k : Nat} (hk : k < zs.length) : 0 ≤ nth zs k ∧ nth zs k < 256 := by
  have : nth zs k = zs[k] := by simp [nth, List.getD, hk]
  rw [this]
  exact h _ (List.getElem_mem hk)
theorem not_u32 (s : Nat) (hs : s < 4294967296) : bits .xor .u32 IntKind.u32.max (s : Int) = ((4294967295 ^^^ s : Nat) : Int) := by
  have : IntKind.u32.max = ((4294967295 : Nat) : Int) := by simp [IntKind.max, IntKind.bits, IntKind.signed]
  rw [this]
  exact u32_xor_nat 4294967295 s (by omega) hs

set_option maxRecDepth 100000 in
set_option maxHeartbeats 4000000 in
theorem cmore_any (w : World) (g s : Nat) (hT : Rows w g 256) (hs : s < 4294967296) (a : Option Addr) (len c : Nat) (zs : List Int) (hrow : Row .u8 w a len zs) (hz : ∀ z ∈ zs, 0 ≤ z ∧ z < 256) (hl : len ≤ 9223372036854775807) :
    Calls Try.prog 157 #[.pointer (some ⟨g, 0, none⟩), .int .u32 (s : Int), .slice a len c] w fun e w' => e = .returned (.int .u32 (4294967295 ^^^ moreN (4294967295 ^^^ s) (nb zs) : Nat)) ∧ w = w' := by
  have hn := not_u32 s hs
  have hzl := hrow.1
  go_enter Try.func157, Try.ntmps157
  go_wp2_with fail
  go_loopw [7, 14] (fun r i wr => ∃ k y : Nat, k ≤ len ∧ i = .int .i64 (k : Int) ∧ r = .int .u32 (y : Int) ∧ y = moreN (4294967295 ^^^ s) (nb (zs.take k)) ∧ wr = w) (fun _ i _ => ((len : Int) - intOf i).toNat)
  case atStart => exact ⟨0, 4294967295 ^^^ s, by omega, rfl, rfl, rfl, rfl⟩
  case round =>
    obtain ⟨k, y, hk, rfl, rfl, hy, rfl⟩ := hrel
    clear hn
    have hyl : y < 4294967296 := by
      rw [hy]
      exact moreN_lt _ (xor_lt (by omega) hs) (fun b hb => nb_lt hz b (by
        unfold nb at hb ⊢
        obtain ⟨z, hz', rfl⟩ := List.mem_map.1 hb
        exact List.mem_map.2 ⟨z, List.mem_of_mem_take hz', rfl⟩))
    by_cases hlt : k < len
    · have hlt' : (k : Int) < (len : Int) := by omega
      have hk0 : (0 : Int) ≤ (k : Int) := by omega
      obtain ⟨b0, off, rfl, hbl, hcell⟩ := hrow.2 (by omega)
      have hc := hcell k hlt
      have hb := nth_in hz (k := k) (by omega)
      obtain ⟨b, hbb⟩ : ∃ b : Nat, nth zs k = (b : Int) := ⟨(nth zs k).toNat, by omega⟩
      rw [hbb] at hc hb
      have hb256 : b < 256 := by omega
      obtain ⟨j, hj⟩ : ∃ j, j = (y % 256) ^^^ b := ⟨_, rfl⟩
      have hj256 : j < 256 := by
        have : (y % 256) ^^^ b < 2 ^ 8 := Nat.xor_lt_two_pow (by omega) (by omega)
        omega
      have hw1 : IntKind.u8.wrap (y : Int) = (y : Int) % 256 := IntKind.wrap_u8' _
      have hx1 : bits .xor .u8 ((y : Int) % 256) (b : Int) = (j : Int) := by
        have := u8_xor_nat (y % 256) b (by omega) hb256
        rw [hj, ← this]
        congr 1
      have ht := hT.cell hj256
      obtain ⟨t, htt⟩ : ∃ t, t = stepN 0 j := ⟨_, rfl⟩
      rw [← htt] at ht
      have ht32 : t < 4294967296 := by rw [htt]; exact stepN_lt (by omega) hj256
      obtain ⟨z, hzz⟩ : ∃ z, z = t ^^^ (y / 256) := ⟨_, rfl⟩
      have hx2 : bits .xor .u32 (t : Int) ((y : Int) / 256) = (z : Int) := by
        have := u32_xor_nat t (y / 256) ht32 (by omega)
        rw [hzz, ← this]
        congr 1
      have hj0 : (0 : Int) ≤ (j : Int) := by omega
      have hj1 : (j : Int) < 256 := by omega
      have HZ : Hid (z = moreN (4294967295 ^^^ s) (nb (zs.take (k + 1)))) := Lib.hid (by
        rw [nb_take zs k (by omega), moreN_snoc, ← hy, hbb, step_table, hzz, htt, hj]
        rfl)
      clear hy hj htt hzz hcell hbb
      go_wp2_with fail
      exact ⟨⟨k + 1, z, by omega, by simp, rfl, HZ.out, trivial⟩, by simp [intOf]; omega⟩
    · obtain rfl : k = len := by omega
      have hn2 := not_u32 y hyl
      have HY : Hid (y = moreN (4294967295 ^^^ s) (nb zs)) := Lib.hid (by rw [hy, List.take_of_length_le (by omega)])
      clear hy
      go_wp2_with fail
      go_ret
      exact ⟨ret_int (by rw [HY.out]), rfl⟩

set_option maxRecDepth 100000 in
set_option maxHeartbeats 1000000 in
theorem csum_any (w : World) (g : Nat) (hT : Rows w g 256) (a : Option Addr) (len c : Nat) (zs : List Int) (hrow : Row .u8 w a len zs) (hz : ∀ z ∈ zs, 0 ≤ z ∧ z < 256) (hl : len ≤ 9223372036854775807) :
    Calls Try.prog 141 #[.pointer (some ⟨g, 0, none⟩), .slice a len c] w fun e w' => e = .returned (.int .u32 (sumN (nb zs) : Nat)) ∧ w = w' := by
  have hs := cmore_any w g 0 hT (by omega) a len c zs hrow hz hl
  have p := Lib.hid (show Calls Try.prog 157 #[.pointer (some ⟨g, 0, none⟩), .int .u32 0, .slice a len c] w fun e w' => e = .returned (.int .u32 (sumN (nb zs) : Nat)) ∧ w = w' from hs)
  clear hs
  go_enter Try.func141, Try.ntmps141
  go_wp2_with fail
  refine p.out.mono ?_
  rintro e w2 ⟨rfl, rfl⟩
  go_wp2_with fail
  go_ret
  exact ⟨rfl, rfl⟩

set_option maxRecDepth 100000 in
set_option maxHeartbeats 4000000 in
theorem rmore_any (w : World) (s : Nat) (hs : s < 4294967296) (a : Option Addr) (len c : Nat) (zs : List Int) (hrow : Row .u8 w a len zs) (hz : ∀ z ∈ zs, 0 ≤ z ∧ z < 256) (hl : len ≤ 9223372036854775807) :
    Calls Try.prog 104 #[.int .u32 (s : Int), .slice a len c] w fun e w' => e = .returned (.int .u32 (4294967295 ^^^ moreN (4294967295 ^^^ s) (nb zs) : Nat)) ∧ w = w' := by
  have hn := not_u32 s hs
  have hzl := hrow.1
  go_enter Try.func104, Try.ntmps104
  go_wp2_with fail
  go_loopw [5, 6] (fun r i wr => ∃ k y : Nat, k ≤ len ∧ i = .int .i64 (k : Int) ∧ r = .int .u32 (y : Int) ∧ y = moreN (4294967295 ^^^ s) (nb (zs.take k)) ∧ wr = w) (fun _ i _ => ((len : Int) - intOf i).toNat)
  case atStart => exact ⟨0, 4294967295 ^^^ s, by omega, rfl, rfl, rfl, rfl⟩
  case round =>
    obtain ⟨k, y, hk, rfl, rfl, hy, rfl⟩ := hrel
    clear hn
    have hyl : y < 4294967296 := by
      rw [hy]
      exact moreN_lt _ (xor_lt (by omega) hs) (fun b hb => nb_lt hz b (by
        unfold nb at hb ⊢
        obtain ⟨z, hz', rfl⟩ := List.mem_map.1 hb
        exact List.mem_map.2 ⟨z, List.mem_of_mem_take hz', rfl⟩))
    by_cases hlt : k < len
    · have hlt' : (k : Int) < (len : Int) := by omega
      have hk0 : (0 : Int) ≤ (k : Int) := by omega
      obtain ⟨b0, off, rfl, hbl, hcell⟩ := hrow.2 (by omega)
      have hc := hcell k hlt
      have hb := nth_in hz (k := k) (by omega)
      obtain ⟨b, hbb⟩ : ∃ b : Nat, nth zs k = (b : Int) := ⟨(nth zs k).toNat, by omega⟩
      rw [hbb] at hc hb
      have hb256 : b < 256 := by omega
      have p := Lib.hid (fun W => rstep_any W y b hyl hb256)
      obtain ⟨z, hzz⟩ : ∃ z, z = stepN y b := ⟨_, rfl⟩
      rw [← hzz] at p
      have HZ : Hid (z = moreN (4294967295 ^^^ s) (nb (zs.take (k + 1)))) := Lib.hid (by
        rw [nb_take zs k (by omega), moreN_snoc, ← hy, hbb, hzz]
        rfl)
      clear hy hzz hcell hbb
      go_wp2_with fail
      refine (p.out _).mono ?_
      rintro e w2 ⟨rfl, rfl⟩
      go_wp2_with fail
      exact ⟨⟨k + 1, z, by omega, by simp, rfl, HZ.out, trivial⟩, by simp [intOf]; omega⟩
    · obtain rfl : k = len := by omega
      have hn2 := not_u32 y hyl
      have HY : Hid (y = moreN (4294967295 ^^^ s) (nb zs)) := Lib.hid (by rw [hy, List.take_of_length_le (by omega)])
      clear hy
      go_wp2_with fail
      go_ret
      exact ⟨ret_int (by rw [HY.out]), rfl⟩
end Go.Proofs.Ytckkpgopddnkiaa.Crc
namespace Go.Proofs.Ytckkpgopddnkiaa.Crc
open Go.RowKit Go.Proofs.Ytckkpgopddnkiaa.Byt Go.Proofs.Ytckkpgopddnkiaa.Gm
set_option linter.all false

def le4 (z : Int) : List Int := [z % 256, z / 256 % 256, z / 65536 % 256, z / 16777216 % 256]
/-- Bytes, sealed. -/
def sealB (zs : List Int) : List Int := zs ++ le4 (sumN (nb zs) : Nat)
theorem mk_bytes (W : World) (l c : Nat) (hlc : l ≤ c) (hc : c ≤ 2000000) : (Instr.makeSlice 81 (.int .i64 (l : Int)) (.int .i64 (c : Int))).run Try.prog W = .ok (.slice (some ⟨W.heap.size, 0, none⟩) l c) (W.alloc (.cells (madeCells (Value.cells (.int .u8 0)) c) 5)) := by
  obtain ⟨i0, hi, hz0, hz1, hz2⟩ := info_parts info8
  have := run_makeSlice (P := Try.prog) W 81 5 i0 (.int .u8 0) Try.underlying81 hi hz0 .i64 .i64 (l : Int) (c : Int) (by omega) (by omega) (by rw [hz1]; simp; omega) (by rw [hz2]; omega) (by omega)
  simp only [Int.toNat_natCast] at this
  rw [hz1, Nat.mul_one] at this
  exact this
theorem row_srcs {w : World} {a : Option Addr} {len : Nat} {zs : List Int} (h : Row .u8 w a len zs) (hp : 0 < len) : ∃ ad, a = some ad ∧ ∀ j v, (ub zs)[j]? = some v → w.cell? (ad.add j) = some v := by
  obtain ⟨b, off, rfl, hlt, hc⟩ := h.2 hp
  refine ⟨_, rfl, fun j v hv => ?_⟩
  have hadd : (⟨b, off, none⟩ : Addr).add j = ⟨b, off + j, none⟩ := by unfold Addr.add; split <;> simp_all
  have hj : j < len := by
    have := (List.getElem?_eq_some_iff.1 hv).1
    rw [ub_len, h.1] at this
    exact this
  rw [hadd, hc j hj]
  unfold ub at hv
  rw [List.getElem?_map] at hv
  have hjz : j < zs.length := by rw [h.1]; exact hj
  rw [List.getElem?_eq_getElem hjz] at hv
  rw [← hv]
  simp [nth, List.getD, hjz]

set_option maxRecDepth 100000 in
set_option maxHeartbeats 4000000 in
theorem cseal_any (w : World) (g : Nat) (hT : Rows w g 256) (a : Option Addr) (len c : Nat) (zs : List Int) (hrow : Row .u8 w a len zs) (hz : ∀ z ∈ zs, 0 ≤ z ∧ z < 256) (hl : len ≤ 1000000) :
    Calls Try.prog 100 #[.pointer (some ⟨g, 0, none⟩), .slice a len c] w (Made w (len + 4) (sealB zs)) := by
  obtain ⟨i0, hi, hz0, hz1, hz2⟩ := info_parts info8
  obtain ⟨MC, hMC⟩ : ∃ MC : Array Value, MC = madeCells (Value.cells (.int .u8 0)) (len + 4) := ⟨_, rfl⟩
  have hms : MC.size = len + 4 := by rw [hMC]; exact size_madeCells _ _
  have hmk : ∀ W : World, (Instr.makeSlice 81 (.int .i64 (len : Int)) (.int .i64 ((len : Int) + 4))).run Try.prog W = .ok (.slice (some ⟨W.heap.size, 0, none⟩) len (len + 4)) (W.alloc (.cells MC 5)) := fun W => by
    rw [hMC]
    exact mk_bytes W len (len + 4) (by omega) (by omega)
  have hln : (ub zs).length = len := by rw [ub_len, hrow.1]
  have hsz1 : (Try.prog.info? 5).map (·.size) = some 1 := by rw [hi]; simp [hz1]
  obtain ⟨W1, hW1⟩ : ∃ W1, W1 = w.alloc (.cells MC 5) := ⟨_, rfl⟩
  have hX : W1.heap[w.heap.size]? = some (.cells MC.toList.toArray 5 (0, 0)) := by rw [hW1, Array.toArray_toList]; exact heap_new w _
  have hB : Below w.heap.size w W1 := by rw [hW1]; exact (Below.refl _ w).alloc (Nat.le_refl _) _
  have hrow1 := hrow.below hB
  have HT := Lib.hid hT
  have HROW := Lib.hid hrow
  have hl2 : (len : Int) + 4 ≤ 9223372036854775807 := by omega
  clear hMC
  go_enter Try.func100, Try.ntmps100
  go_upto_region 2 with fail
  rw [← hW1]
  clear hmk hT hrow
  go_wp2_with (first
    | (refine wpList_copy_splice (by rfl) (.tmp 13) (.tmp 14) 81 81 (by rfl) 5 Try.underlying81 hsz1 (some ⟨w.heap.size, 0, none⟩) a len (len + 4) len c (by rfl) (by rfl) w.heap.size 0 MC.toList 5 hX (ub zs) (by rw [hln]; exact (Nat.min_self len).symm) (fun hp => ⟨rfl, row_srcs hrow1 (by omega)⟩) (by rw [hln, Array.length_toList, hms]; omega) (ub_one zs) w.heap.size w hB (Nat.le_refl _) ?_; intro W2 hg2 hb2)
    | fail)
  have hlm : MC.toList.length = len + 4 := by rw [Array.length_toList, hms]
  have hOn : On W2 5 1 (.slice (some ⟨w.heap.size, 0, none⟩) len (len + 4)) len (ub zs) :=
    ⟨by rw [hln]; omega, .inr ⟨w.heap.size, len + 4, _, rfl, hg2.out, by omega, by simp only [maxLen]; omega, by
      rw [List.size_toArray, length_splice _ _ _ (by rw [hln, hlm]; omega), hlm]; omega, by
      have : (splice MC.toList 0 (ub zs)).toArray.toList = ub zs ++ MC.toList.drop len := by simp [splice, hln]
      rw [this, show len * 1 = (ub zs).length by rw [hln]; omega]
      exact List.take_left⟩⟩
  have pS := Lib.hid (csum_any W2 g (HT.out.below (hb2.mono (Nat.le_refl _))) a len c zs (HROW.out.below hb2) hz (by omega))
  obtain ⟨s, hs⟩ : ∃ s, s = sumN (nb zs) := ⟨_, rfl⟩
  have HSS := Lib.hid hs
  rw [← hs] at pS
  have hs32 : s < 4294967296 := by rw [hs]; exact sumN_lt (nb_lt hz)
  have hz2' := hb2.size
  have HB2 := Lib.hid hb2
  have HON := Lib.hid (hOn.alloc (.cells #[.int .u8 ((s : Int) % 256), .int .u8 ((s : Int) / 256 % 256), .int .u8 ((s : Int) / 65536 % 256), .int .u8 ((s : Int) / 16777216 % 256)] 5))
  have hgl := lt_of_heap hg2.out
  clear hs hg2 hOn hb2 hX hB hW1 hrow1
  refine pS.out.mono ?_
  rintro e w3 ⟨rfl, rfl⟩
  have w1 : IntKind.u8.wrap ((s : Int) / 16777216) = (s : Int) / 16777216 % 256 := by simp [IntKind.wrap, IntKind.bits, IntKind.signed]
  have w2 : IntKind.u8.wrap ((s : Int) / 65536) = (s : Int) / 65536 % 256 := by simp [IntKind.wrap, IntKind.bits, IntKind.signed]
  have w3 : IntKind.u8.wrap ((s : Int) / 256) = (s : Int) / 256 % 256 := by simp [IntKind.wrap, IntKind.bits, IntKind.signed]
  have w4 : IntKind.u8.wrap (s : Int) = (s : Int) % 256 := by simp [IntKind.wrap, IntKind.bits, IntKind.signed]
  have hq1 : len + 4 ≤ maxLen := by simp only [maxLen]; omega
  go_wp2_with (first
    | (refine wpList_append_on _ (by rfl) (.tmp 19) (.tmp 31) 81 (by rfl) 5 i0 _ 1 1 Try.underlying81 hi hz0 hz1 hz2 (by rfl) (by omega) (.slice (some ⟨w.heap.size, 0, none⟩) len (len + 4)) len (ub zs) (by rfl) HON.out (some ⟨W2.heap.size, 0, none⟩) 4 4 (ub (le4 (s : Int))) (by rfl) (by rfl) (src_new W2 5 4 (ub (le4 (s : Int)))) (ub_one _) hq1 (by omega) ?_; intro v' w' hon hg hv')
    | fail)
  go_ret
  refine ⟨v', rfl, ?_, ?_, ?_⟩
  · unfold sealB
    rw [ub_app, ← HSS.out]
    exact hon
  · exact (HB2.out.alloc hz2' _).grown hg (by simp; omega) (fun k hk => by simp [Value.ownBlock] at hk; omega)
  · intro k hk
    exact (own_le hv' (n := w.heap.size) (by simp; omega) k hk).elim (fun e => by simp [Value.ownBlock] at e; omega) id
end Go.Proofs.Ytckkpgopddnkiaa.Crc
namespace Go.Proofs.Ytckkpgopddnkiaa.Crc
open Go.RowKit Go.Proofs.Ytckkpgopddnkiaa.Byt Go.Proofs.Ytckkpgopddnkiaa.Gm
set_option linter.all false

theorem endB4 (s : Nat) : endB s 4 = [(s : Int) / 16777216 % 256, (s : Int) / 65536 % 256, (s : Int) / 256 % 256, (s : Int) % 256] := by
  simp [endB]

set_option maxRecDepth 100000 in
set_option maxHeartbeats 4000000 in
theorem rseal_any (w : World) (a : Option Addr) (len c : Nat) (zs : List Int) (hrow : Row .u8 w a len zs) (hz : ∀ z ∈ zs, 0 ≤ z ∧ z < 256) (hl : len ≤ 1000000) :
    Calls Try.prog 53 #[.slice a len c] w (Made w (len + 4) (sealB zs)) := by
  obtain ⟨i0, hi, hz0, hz1, hz2⟩ := info_parts info8
  have hln : (ub zs).length = len := by rw [ub_len, hrow.1]
  have hsz1 : (Try.prog.info? 5).map (·.size) = some 1 := by rw [hi]; simp [hz1]
  have hp0 := rmore_any w 0 (by omega) a len c zs hrow hz (by omega)
  have p0 := Lib.hid (show Calls Try.prog 104 #[.int .u32 0, .slice a len c] w fun e w' => e = .returned (.int .u32 (sumN (nb zs) : Nat)) ∧ w = w' from hp0)
  obtain ⟨s, hs⟩ : ∃ s, s = sumN (nb zs) := ⟨_, rfl⟩
  have HSS := Lib.hid hs
  rw [← hs] at p0
  have hs32 : s < 4294967296 := by rw [hs]; exact sumN_lt (nb_lt hz)
  have hpb := rbytes_any w s 4 (by omega) (.inr rfl)
  have pB := Lib.hid (show Calls Try.prog 83 #[.int .u64 (s : Int), .int .i64 4] w (Made w 4 (endB s 4)) from hpb)
  have hw : IntKind.u64.wrap (s : Int) = (s : Int) := by rw [IntKind.wrap_u64]; omega
  have HROW := Lib.hid hrow
  clear hs hp0 hpb hrow
  go_enter Try.func53, Try.ntmps53
  go_wp2_with fail
  refine p0.out.mono ?_
  rintro e w1 ⟨rfl, rfl⟩
  go_wp2_with fail
  refine pB.out.mono ?_
  rintro e w1 ⟨v, rfl, hv, hb1, hvo⟩
  rcases hv.form with ⟨_, h40, _⟩ | ⟨gb, capb, rfl, hnb, hcb, how, hgl, hcell, -⟩
  · exact absurd h40 (by omega)
  have k3 : w1.cell? ⟨gb, 3, none⟩ = some (.int .u8 ((s : Int) % 256)) := hcell 3 _ (by rw [endB4]; rfl)
  have k2 : w1.cell? ⟨gb, 2, none⟩ = some (.int .u8 ((s : Int) / 256 % 256)) := hcell 2 _ (by rw [endB4]; rfl)
  have k1 : w1.cell? ⟨gb, 1, none⟩ = some (.int .u8 ((s : Int) / 65536 % 256)) := hcell 1 _ (by rw [endB4]; rfl)
  have k0 : w1.cell? ⟨gb, 0, none⟩ = some (.int .u8 ((s : Int) / 16777216 % 256)) := hcell 0 _ (by rw [endB4]; rfl)
  obtain ⟨MC, hMC⟩ : ∃ MC : Array Value, MC = madeCells (Value.cells (.int .u8 0)) len := ⟨_, rfl⟩
  have hms : MC.size = len := by rw [hMC]; exact size_madeCells _ _
  have hmk : ∀ W : World, (Instr.makeSlice 81 (.int .i64 (len : Int)) (.int .i64 (len : Int))).run Try.prog W = .ok (.slice (some ⟨W.heap.size, 0, none⟩) len len) (W.alloc (.cells MC 5)) := fun W => by
    rw [hMC]
    exact mk_bytes W len len (by omega) (by omega)
  obtain ⟨W1, hW1⟩ : ∃ W1, W1 = w1.alloc (.cells MC 5) := ⟨_, rfl⟩
  have hX : W1.heap[w1.heap.size]? = some (.cells MC.toList.toArray 5 (0, 0)) := by rw [hW1, Array.toArray_toList]; exact heap_new w1 _
  have hB : Below w1.heap.size w1 W1 := by rw [hW1]; exact (Below.refl _ w1).alloc (Nat.le_refl _) _
  have hrow1 := (HROW.out.below hb1).below hB
  have HB1 := Lib.hid hb1
  have hz1' := hb1.size
  clear hMC hv hcell hvo how pB p0 hb1
  go_upto_region 3 with fail
  rw [← hW1]
  clear hmk
  go_upto_region 4 with (first
    | (refine wpList_copy_splice (by rfl) (.tmp 12) (.tmp 13) 81 81 (by rfl) 5 Try.underlying81 hsz1 (some ⟨w1.heap.size, 0, none⟩) a len len len c (by rfl) (by rfl) w1.heap.size 0 MC.toList 5 hX (ub zs) (by rw [hln]; exact (Nat.min_self len).symm) (fun hp => ⟨rfl, row_srcs hrow1 (by omega)⟩) (by rw [hln, Array.length_toList, hms]; omega) (ub_one zs) w1.heap.size w1 hB (Nat.le_refl _) ?_; intro W2 hg2 hb2)
    | fail)
  have hlm : MC.toList.length = len := by rw [Array.length_toList, hms]
  have hOn : On W2 5 1 (.slice (some ⟨w1.heap.size, 0, none⟩) len len) len (ub zs) :=
    ⟨by rw [hln]; omega, .inr ⟨w1.heap.size, len, _, rfl, hg2.out, by omega, by simp only [maxLen]; omega, by
      rw [List.size_toArray, length_splice _ _ _ (by rw [hln, hlm]; omega), hlm]; omega, by
      have : (splice MC.toList 0 (ub zs)).toArray.toList = ub zs ++ MC.toList.drop len := by simp [splice, hln]
      rw [this, show len * 1 = (ub zs).length by rw [hln]; omega]
      exact List.take_left⟩⟩
  have j3 := (hb2.cell (p := ⟨gb, 3, none⟩) hgl).trans k3
  have j2 := (hb2.cell (p := ⟨gb, 2, none⟩) hgl).trans k2
  have j1 := (hb2.cell (p := ⟨gb, 1, none⟩) hgl).trans k1
  have j0 := (hb2.cell (p := ⟨gb, 0, none⟩) hgl).trans k0
  have hz2' := hb2.size
  have HB2 := Lib.hid (HB1.out.trans (hb2.mono HB1.out.size))
  have HON := Lib.hid (fun (W : World) (hW : W.heap = W2.heap) => (On.heap_eq hOn hW).alloc (.cells #[.int .u8 ((s : Int) % 256), .int .u8 ((s : Int) / 256 % 256), .int .u8 ((s : Int) / 65536 % 256), .int .u8 ((s : Int) / 16777216 % 256)] 5))
  have hgl2 := lt_of_heap hg2.out
  have hq1 : len + 4 ≤ maxLen := by simp only [maxLen]; omega
  clear hg2 hOn hb2 hX hB hW1 hrow1 k0 k1 k2 k3
  go_region_law (refine step_append_on _ (by rfl) (.tmp 15) (.tmp 28) 81 (by rfl) 5 i0 _ 1 1 Try.underlying81 hi hz0 hz1 hz2 (by rfl) (by omega) (.slice (some ⟨w1.heap.size, 0, none⟩) len len) len (ub zs) (by rfl) (by exact HON.out _ (by rfl)) (some ⟨W2.heap.size, 0, none⟩) 4 4 (ub (le4 (s : Int))) (by rfl) (by rfl) (by exact src_new _ 5 4 (ub (le4 (s : Int)))) (ub_one _) hq1 (by omega) ?_; intro v' w' hon hg hv')
  all_goals
    go_wp2_with fail
    go_ret
    refine ⟨v', rfl, ?_, ?_, ?_⟩
    · unfold sealB
      rw [ub_app, ← HSS.out]
      exact hon
    · exact Below.grown (by first | exact below_drewN (HB2.out.alloc (by omega) _) 1 | exact (below_drewN HB2.out 1).alloc (by show w.heap.size ≤ W2.heap.size; omega) _ | exact HB2.out.alloc (by omega) _) hg (by simp; omega) (fun k hk => by simp [Value.ownBlock] at hk; omega)
    · intro k hk
      exact (own_le hv' (n := w.heap.size) (by simp; omega) k hk).elim (fun e => by simp [Value.ownBlock] at e; omega) id
end Go.Proofs.Ytckkpgopddnkiaa.Crc
