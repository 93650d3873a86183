/-
  Texts joined: RsA. No condition.
-/
import Derived.Test.YtckkpgopddnkiaaBRoll16
namespace Go.Proofs.Ytckkpgopddnkiaa.Rl
open Go.RowKit Go.Sort Go.Proofs.Ytckkpgopddnkiaa.Gm Go.Proofs.Ytckkpgopddnkiaa.RingE Go.Proofs.Ytckkpgopddnkiaa.Inputq
set_option linter.all false

theorem storeNewB (w1 : World) {D : Array Value} {f : F} (LD : Let D f) : ∃ W3, storeR Try.prog 53 (.pointer (some ⟨w1.heap.size, 0, none⟩)) (.agg D) (w1.alloc (.cells Try.zeroCells53 53)) = .ok .skip W3 ∧
    Blk W3 w1.heap.size 53 D ∧ Below w1.heap.size w1 W3 := by
  obtain ⟨Z, LZ⟩ := let_of zF
  have hZ : Try.zeroCells53 = Z := by rw [LZ.eq, ← stA_zero]
  rw [hZ]
  have hb : Blk (w1.alloc (.cells Z 53)) w1.heap.size 53 Z := Blk.new _ _ _
  have ht : (w1.alloc (.cells Z 53)).there w1.heap.size 0 D.size := fun j hj => by
    rw [Nat.zero_add, hb.cell]
    refine ⟨?_, hb.frozen j⟩
    rw [Array.getElem?_eq_getElem (by rw [LZ.size, ← LD.size]; exact hj)]
    rfl
  refine ⟨_, storeR_mid ht LD.info LD.one rfl, ?_, ?_⟩
  · have h2 := setCells_mid D.toList Z.toList [] [] _ (by simpa using hb) (by rw [Array.length_toList, Array.length_toList, LZ.size, LD.size])
    simpa using h2
  · have hT : Touch (fun k => k = w1.heap.size) (w1.alloc (.cells Z 53)) ((w1.alloc (.cells Z 53)).setCells w1.heap.size 0 D.toList) := touch_setCells (S := fun k => k = w1.heap.size) (Touch.refl _ _) _ (.inl rfl) _ _
    exact ((Below.refl _ w1).alloc (Nat.le_refl _) _).trans (hT.below (by simp) (fun k hk => by omega))
theorem made_u16 (n : Nat) : madeCells (Value.cells (.int .u16 0)) n = (u16s (List.replicate n 0)).toArray := by
  apply Array.ext
  · rw [size_madeCells]; simp [u16s]
  · intro i h1 h2
    simp [madeCells, u16s, Value.cells, Nat.mod_one]
theorem mk_inputs (W : World) (n : Nat) (hn : n ≤ 1000) : (Instr.makeSlice 73 (.int .i64 (n : Int)) (.int .i64 (n : Int))).run Try.prog W = .ok (.slice (some ⟨W.heap.size, 0, none⟩) n n) (W.alloc (.cells (u16s (List.replicate n 0)).toArray 33)) := by
  obtain ⟨i0, hi, hz0, hz1, hz2⟩ := info_parts RingInput.info
  have := run_makeSlice (P := Try.prog) W 73 33 i0 (.int .u16 0) Try.underlying73 hi hz0 .i64 .i64 (n : Int) (n : Int) (by omega) (by omega) (by rw [hz1]; simp; omega) (by rw [hz2]; omega) (by omega)
  simp only [Int.toNat_natCast] at this
  rw [hz1, Nat.mul_one, made_u16] at this
  exact this
theorem made_on (W : World) (n : Nat) (hn : n ≤ 1000) : On (W.alloc (.cells (u16s (List.replicate n 0)).toArray 33)) 33 1 (.slice (some ⟨W.heap.size, 0, none⟩) n n) (List.replicate n 0 : List Nat).length (u16s (List.replicate n 0)) := by
  rw [List.length_replicate]
  refine ⟨by simp [u16s], .inr ⟨W.heap.size, n, _, rfl, heap_new W _, Nat.le_refl _, by simp only [maxLen]; omega, by simp [u16s], ?_⟩⟩
  rw [List.take_of_length_le (by simp [u16s])]

/-- The engine, and what was said to it. -/
structure SU (w wr : World) (cf : Cfg) (g d : Nat) (s : SE) (x : H) (v : Nat → Value) (S T : Nat → List Nat) (K : Nat) : Prop where
  ea : s.g = g
  ha : HAt wr cf s x
  j : J cf x
  cfg : Blk wr w.heap.size 58 #[.int .u32 (cf.sd : Int), .int .i64 (cf.lo : Int), .int .i64 cf.de, .int .i64 cf.ah]
  kn : Blk wr d 74 #[v 0, v 1]
  l : ∀ i, i < 2 → On wr 33 1 (v i) (S i).length (u16s (S i))
  q : ∀ i, i < 2 → ∀ k, (v i).ownBlock = some k → ¬ fpE s k ∧ w.heap.size ≤ k
  q01 : ∀ k, (v 0).ownBlock = some k → ¬ (v 1).ownBlock = some k
  lo : Below w.heap.size w wr
  ba : ∀ k, fpE s k → w.heap.size ≤ k
  bd : w.heap.size ≤ d
  ks : ∀ i, i < 2 → x.ks i = T i
  un : x.us.length ≤ K ∧ x.ro ≤ K ∧ x.re ≤ 200 * K
  kk : (x.ks (1 - cf.lo)).length ≤ 8 + K
theorem HAt.other' {wr : World} {c : Cfg} {s : SE} {x : H} (h : HAt wr c s x) {k : Nat} {t : TypeId} {cs : Array Value} (hb : Blk wr k t cs)
    (ht : t ≠ 119 ∧ t ≠ 177 ∧ t ≠ 203 ∧ t ≠ 33 ∧ t ≠ 184 ∧ t ≠ 206 ∧ t ≠ 182) : ¬ fpE s k := by
  obtain ⟨p, C, hE, -⟩ := h
  exact hE.other hb ht
theorem fix_counts' {c : Cfg} {x : H} (j : J c x) : (fixH x).ro ≤ x.ro + 1 ∧ (fixH x).re ≤ x.re + 16 := by
  have hf := j.fromH
  unfold fixH
  split
  · exact ⟨by show x.ro ≤ x.ro + 1; omega, by show x.re ≤ x.re + 16; omega⟩
  · refine ⟨Nat.le_refl _, ?_⟩
    show x.re + fixN x ≤ x.re + 16
    unfold fixN
    omega
theorem adv_hist' {c : Cfg} {x : H} {v : Nat} (j : J c x) (hv : v < 65536) (hn : x.us.length < 110) (hT : ¬ advT c x) :
    (advH c x v).ks = upd x.ks c.lo (x.ks c.lo ++ [v]) ∧ (advH c x v).us.length = x.us.length + 1 ∧ (advH c x v).ro ≤ x.ro + 1 ∧ (advH c x v).re ≤ x.re + 16 := by
  have e : advH c x v = adv3 c x v := by unfold advH; rw [if_neg hT]
  have hc := fix_counts' j
  rw [e]
  exact ⟨(adv1_same j v).1, (adv2_j0 j hv hn).2, hc.1, hc.2⟩
section
variable {w wr W : World} {cf : Cfg} {g d : Nat} {s : SE} {x : H} {v : Nat → Value} {S T : Nat → List Nat} {K : Nat}
theorem SU.below (h : SU w wr cf g d s x v S T K) (hb : Below wr.heap.size wr W) : SU w W cf g d s x v S T K :=
  { h with ha := h.ha.below hb, cfg := h.cfg.below hb h.cfg.lt, kn := h.kn.below hb h.kn.lt, l := fun i hi => (h.l i hi).below hb (h.l i hi).lt, lo := h.lo.trans (hb.mono h.lo.size) }
theorem SU.up (h : SU w wr cf g d s x v S T K) : SU w wr cf g d s x v S T (K + 1) := { h with un := by have := h.un; omega, kk := by have := h.kk; omega }
theorem SU.turn {x' : H} {T' : Nat → List Nat} {K' : Nat} (h : SU w wr cf g d s x v S T K) (ht : HTurn wr cf s x' W) (j : J cf x') (hk : ∀ i, i < 2 → x'.ks i = T' i) (hu : x'.us.length ≤ K' ∧ x'.ro ≤ K' ∧ x'.re ≤ 200 * K') (hkk : (x'.ks (1 - cf.lo)).length ≤ 8 + K') :
    (∃ s', SU w W cf g d s' x' v S T' K') ∧ ∀ k cs, Blk wr k 64 cs → Blk W k 64 cs := by
  obtain ⟨s', es, hA, hT, hF⟩ := ht.at
  have hsz := h.lo.size
  refine ⟨⟨s', ⟨es.1.trans h.ea, hA, j, h.cfg.touch hT (h.ha.other' h.cfg (by decide)), h.kn.touch hT (h.ha.other' h.kn (by decide)), fun i hi => (h.l i hi).touch hT (fun k hk => (h.q i hi k hk).1), fun i hi k hk => ⟨fun h2 => ?_, (h.q i hi k hk).2⟩, h.q01, h.lo.trans (hT.below hsz h.ba), fun k hk => ?_, h.bd, hk, hu, hkk⟩⟩, fun k cs hb => hb.touch hT (h.ha.other' hb (by decide))⟩
  · rcases hF k h2 with a | a
    · exact (h.q i hi k hk).1 a
    · have := (h.l i hi).lt k hk; omega
  · rcases hF k hk with a | a
    · exact h.ba k a
    · omega
theorem SU.adv (h : SU w wr cf g d s x v S T K) (hK : K < 100) (u : Nat) (hu : u < 65536) :
    Calls Try.prog 26 #[.pointer (some ⟨g, 0, none⟩), .int .u16 u] wr fun ee w' => (∀ k cs, Blk wr k 64 cs → Blk w' k 64 cs) ∧
      ((ee = .returned (.int .i64 250) ∧ ∃ s' x', SU w w' cf g d s' x' v S T (K + 1)) ∨
       (ee = .returned (.int .i64 0) ∧ ∃ s' x', SU w w' cf g d s' x' v S (upd T cf.lo (T cf.lo ++ [u])) (K + 1))) := by
  have hun := h.un
  have hlo := h.j.lo
  have hc := advance_h wr cf s x u K h.ha h.j hu (by omega) (by omega) hun.2.1 hun.2.2
  rw [h.ea] at hc
  refine hc.mono fun ee w' ⟨he, ht⟩ => ?_
  by_cases hT : advT cf x
  · have e1 : advE cf x = 250 := if_pos hT
    have e2 : advH cf x u = x := if_pos hT
    rw [e1] at he
    rw [e2] at ht
    obtain ⟨⟨s', h'⟩, hk⟩ := h.turn ht h.j h.ks hun h.kk
    exact ⟨hk, .inl ⟨he, s', x, h'.up⟩⟩
  · have e1 : advE cf x = 0 := if_neg hT
    rw [e1] at he
    obtain ⟨a1, a2, a3, a4⟩ := adv_hist' h.j hu (by omega) hT
    obtain ⟨⟨s', h'⟩, hk⟩ := h.turn (T' := upd T cf.lo (T cf.lo ++ [u])) (K' := K + 1) ht (h.j.adv hu (by omega)) (fun i hi => by
      rw [a1]
      by_cases e : i = cf.lo
      · subst e; rw [upd_at, upd_at, h.ks _ hi]
      · rw [upd_ne _ _ e, upd_ne _ _ e, h.ks _ hi]) (by omega) (by
      rw [a1, upd_ne _ _ (by omega)]; have := h.kk; omega)
    exact ⟨hk, .inr ⟨he, s', _, h'⟩⟩
theorem SU.rem (h : SU w wr cf g d s x v S T K) (hK : K < 100) (u : Nat) (hu : u < 65536) :
    Calls Try.prog 27 #[.pointer (some ⟨g, 0, none⟩), .int .u16 u] wr fun ee w' => (∀ k cs, Blk wr k 64 cs → Blk w' k 64 cs) ∧ (∃ z, ee = .returned (.tuple #[.int .i64 z, .int .i64 0])) ∧
      ∃ s' x', SU w w' cf g d s' x' v S (upd T (1 - cf.lo) (T (1 - cf.lo) ++ [u])) (K + 1) := by
  have hun := h.un
  have hlo := h.j.lo
  have hi : 1 - cf.lo < 2 := by omega
  have hkk := h.kk
  have hc := addRemote_h h.ha h.j u
  rw [h.ea] at hc
  refine hc.mono fun ee w' ⟨he, ht⟩ => ?_
  have hnt : ¬ addHT cf x := by unfold addHT; omega
  have er : addHR cf x u = addH x (1 - cf.lo) u := by unfold addHR; rw [if_neg hnt]
  have ec : addHC cf x = 0 := by unfold addHC; rw [if_neg hnt]
  have jj := h.j.addR (v := u) hu
  rw [er] at ht jj
  rw [ec] at he
  obtain ⟨⟨s', h'⟩, hk⟩ := h.turn (T' := upd T (1 - cf.lo) (T (1 - cf.lo) ++ [u])) (K' := K + 1) ht jj (fun i hi2 => by
    show upd x.ks (1 - cf.lo) (x.ks (1 - cf.lo) ++ [u]) i = _
    by_cases e : i = 1 - cf.lo
    · subst e; rw [upd_at, upd_at, h.ks _ hi2]
    · rw [upd_ne _ _ e, upd_ne _ _ e, h.ks _ hi2]) (by show x.us.length ≤ K + 1 ∧ x.ro ≤ K + 1 ∧ x.re ≤ 200 * (K + 1); omega) (by
    show (upd x.ks (1 - cf.lo) (x.ks (1 - cf.lo) ++ [u]) (1 - cf.lo)).length ≤ _
    rw [upd_at, List.length_append, List.length_singleton]; omega)
  exact ⟨hk, ⟨_, he⟩, s', _, h'⟩
theorem SU.fix (h : SU w wr cf g d s x v S T K) (hK : K < 100) :
    Calls Try.prog 28 #[.pointer (some ⟨g, 0, none⟩)] wr fun ee w' => (∃ z, ee = .returned (.int .i64 z)) ∧ ∃ s' x', SU w w' cf g d s' x' v S T (K + 1) := by
  have hun := h.un
  have hc := fix_h h.ha h.j K (by omega) hun.2.1 hun.2.2
  rw [h.ea] at hc
  refine hc.mono fun ee w' ⟨he, ht⟩ => ?_
  have hfc := fix_counts' h.j
  obtain ⟨⟨s', h'⟩, hk⟩ := h.turn (T' := T) (K' := K + 1) ht h.j.fix (fun i hi => by rw [(fixH_same x).1]; exact h.ks i hi) (by rw [fixH_len h.j]; omega) (by rw [(fixH_same x).1]; have := h.kk; omega)
  exact ⟨⟨_, he⟩, s', _, h'⟩
/-- An append to a list. -/
theorem SU.app (h : SU w wr cf g d s x v S T K) {i : Nat} (hi : i < 2) (hS : (S i).length ≤ 1000) (u : Nat) (n : Nat) :
    ∃ a2 c2 w3, (appI #[73, 73] 73 #[v i, .slice (some ⟨wr.heap.size, 0, none⟩) 1 1]).run Try.prog ((wr.alloc (.cells #[.int .u16 (u : Int)] 33)).drewN n) = .ok (.slice a2 ((S i).length + 1) c2) w3 ∧ Blk w3 d 74 #[v 0, v 1] ∧ Blk w3 w.heap.size 58 #[.int .u32 (cf.sd : Int), .int .i64 (cf.lo : Int), .int .i64 cf.de, .int .i64 cf.ah] ∧
      ∃ v', SU w (w3.setCell ⟨d, i, none⟩ (.slice a2 ((S i).length + 1) c2)) cf g d s x v' (upd S i (S i ++ [u])) T K := by
  have h1 := (h.below ((Below.refl _ wr).alloc (Nat.le_refl _) (.cells #[.int .u16 (u : Int)] 33))).below (below_drewN (Below.refl _ _) n)
  obtain ⟨a2, c2, w3, hrun, hon, hg, hown⟩ := app_one _ (v i) (S i) wr.heap.size u (h1.l i hi) ((Blk.new _ _ _).drewN n) hS
  have hT : Touch (fun k => (v i).ownBlock = some k) ((wr.alloc (.cells #[.int .u16 (u : Int)] 33)).drewN n) w3 := (Touch.refl _ _).grown hg (fun k hk => .inl hk)
  have nd : ¬ (v i).ownBlock = some d := On.blk_ne (h1.l i hi) h1.kn (by decide)
  have nc : ¬ (v i).ownBlock = some w.heap.size := On.blk_ne (h1.l i hi) h1.cfg (by decide)
  have hd := h1.kn.touch hT nd
  have hcf := h1.cfg.touch hT nc
  have hsz := h1.lo.size
  refine ⟨a2, c2, w3, hrun, hd, hcf, upd v i (.slice a2 ((S i).length + 1) c2), ?_⟩
  have hA := h1.ha.touch hT (fun k hk hk2 => (h1.q i hi k hk2).1 hk)
  have hT2 := touch_g w3 d i (.slice a2 ((S i).length + 1) c2)
  have nda := hA.other' hd (by decide)
  have hoth : ∀ k, k < 2 → ¬ k = i → ∀ b, (v k).ownBlock = some b → ¬ (v i).ownBlock = some b := fun k hk hki b hb hb2 => by
    obtain ⟨rfl, rfl⟩ | ⟨rfl, rfl⟩ : k = 0 ∧ i = 1 ∨ k = 1 ∧ i = 0 := by omega
    · exact h1.q01 b hb hb2
    · exact h1.q01 b hb2 hb
  have hlo : Below w.heap.size w w3 := h1.lo.trans (hT.below hsz (fun k hk => (h1.q i hi k hk).2))
  refine { h1 with ha := hA.touch hT2 (fun k hk e => nda (e ▸ hk)), cfg := hcf.touch hT2 (fun e => Blk.ne_ hd hcf (by decide) e.symm), kn := ?_, l := fun k hk => ?_, q := fun k hk b hb => ?_, q01 := fun b h0 h1' => ?_, lo := hlo.setCell h1.bd _ }
  · have := hd.set_ i (.slice a2 ((S i).length + 1) c2)
    obtain rfl | rfl : i = 0 ∨ i = 1 := by omega
    · exact this
    · exact this
  · by_cases e : k = i
    · subst e
      rw [upd_at, upd_at]
      exact hon.touch hT2 (fun b hb e => On.blk_ne hon hd (by decide) (e ▸ hb))
    · rw [upd_ne _ _ e, upd_ne _ _ e]
      have hk1 := (h1.l k hk).touch hT (fun b hb => hoth k hk e b hb)
      exact hk1.touch hT2 (fun b hb e => On.blk_ne hk1 hd (by decide) (e ▸ hb))
  · by_cases e : k = i
    · subst e
      rw [upd_at] at hb
      rcases hown b hb with a | a
      · exact h1.q k hk b a
      · refine ⟨fun h2 => ?_, by rw [a]; exact hsz⟩
        have := h1.ha.lt b h2; omega
    · rw [upd_ne _ _ e] at hb
      exact h1.q k hk b hb
  · by_cases e : i = 0
    · subst e
      rw [upd_at] at h0
      rw [upd_ne _ _ (by omega)] at h1'
      rcases hown b h0 with a | a
      · exact h1.q01 b a h1'
      · have := (h1.l 1 (by omega)).lt b h1'; omega
    · have e' : i = 1 := by omega
      subst e'
      rw [upd_at] at h1'
      rw [upd_ne _ _ (by omega)] at h0
      rcases hown b h1' with a | a
      · exact h1.q01 b h0 a
      · have := (h1.l 0 (by omega)).lt b h0; omega
end
/-- What the law asks behind each operation. -/
theorem SU.check {w wr : World} {cf : Cfg} {g d : Nat} {s : SE} {x : H} {v : Nat → Value} {S : Nat → List Nat} {K : Nat} (h : SU w wr cf g d s x v S S K) :
    ∃ fr cc su : Int, (-1000 ≤ cc ∧ cc ≤ 1000) ∧ fr ≤ cc + cf.ah ∧ su ≤ fr ∧ su ≤ (S 0).length ∧ su ≤ (S 1).length ∧
      (∀ j, Calls Try.prog 34 #[.pointer (some ⟨g, 0, none⟩)] (wr.drewN j) fun e w' => e = .returned (.int .i64 fr) ∧ w' = wr.drewN j) ∧
      (∀ j, Calls Try.prog 35 #[.pointer (some ⟨g, 0, none⟩)] (wr.drewN j) fun e w' => e = .returned (.int .i64 cc) ∧ ∃ m, w' = (wr.drewN j).drewN m) ∧
      (∀ j, Calls Try.prog 30 #[.pointer (some ⟨g, 0, none⟩)] (wr.drewN j) fun e w' => e = .returned (.int .i64 su) ∧ ∃ m, w' = (wr.drewN j).drewN m) := by
  have hs := sureH_le x
  rw [h.ks 0 (by omega), h.ks 1 (by omega)] at hs
  have hc := minI_le (x.ks 0).length (x.ks 1).length
  have ec : confH x = minI (x.ks 0).length (x.ks 1).length := rfl
  have k0 := h.j.kn 0 (by omega)
  have k1 := h.j.kn 1 (by omega)
  have n0 := h.j.nc 0 (by omega)
  have n1 := h.j.nc 1 (by omega)
  refine ⟨x.us.length, confH x, sureH x, by omega, by omega, hs.1, hs.2.1, hs.2.2.1, fun j => ?_, fun j => ?_, fun j => ?_⟩
  · have := frame_h (h.ha.below (below_drewN (Below.refl _ wr) j)) h.j.j0
    rw [h.ea] at this
    exact frame_any _ g _ this
  · have := conf_h (h.ha.below (below_drewN (Below.refl _ wr) j)) h.j.j0
    rw [h.ea] at this
    exact this
  · have := sure_h (h.ha.below (below_drewN (Below.refl _ wr) j)) h.j.j0
    rw [h.ea] at this
    exact this
/-- A list of inputs, in memory. -/
theorem sent_at2 {wr : World} {v : Value} {S : List Nat} (h : On wr 33 1 v S.length (u16s S)) : ∃ a c, v = .slice a S.length c ∧ ∀ i, i < S.length → ∃ g, a = some ⟨g, 0, none⟩ ∧ g < wr.heap.size ∧ wr.cell? ⟨g, i, none⟩ = some (.int .u16 ((S.getD i 0 : Nat) : Int)) := by
  rcases h.form with ⟨rfl, h0, _⟩ | ⟨g, cap, hv, hnc, hcm, hown, hlt, hc, hf⟩
  · exact ⟨none, 0, by rw [h0], fun i hi => by omega⟩
  · refine ⟨_, cap, hv, fun i hi => ⟨g, rfl, hlt, hc i _ ?_⟩⟩
    unfold u16s
    rw [List.getElem?_map, List.getD_eq_getElem?_getD, List.getElem?_eq_getElem hi]
    rfl
theorem heap3 (w : World) (A B C : Obj) : (((w.alloc A).alloc B).alloc C).drew.heap[w.heap.size]? = some A ∧ (((w.alloc A).alloc B).alloc C).drew.heap[w.heap.size + 1]? = some B ∧ (((w.alloc A).alloc B).alloc C).drew.heap[w.heap.size + 1 + 1]? = some C ∧ Below w.heap.size w (((w.alloc A).alloc B).alloc C).drew := by
  refine ⟨?_, ?_, ?_, ((((Below.refl _ w).alloc (Nat.le_refl _) _).alloc (by simp) _).alloc (by simp; omega) _).drew⟩
  · exact (heap_old _ C (by simp; omega)).trans ((heap_old _ B (by simp)).trans (heap_new w A))
  · refine (heap_old _ C (by simp)).trans ?_
    have := heap_new (w.alloc A) B
    rw [show (w.alloc A).heap.size = w.heap.size + 1 by simp] at this
    exact this
  · have := heap_new ((w.alloc A).alloc B) C
    rw [show ((w.alloc A).alloc B).heap.size = w.heap.size + 1 + 1 by simp] at this
    exact this
/-- The lists are made. -/
theorem SU.start {w wr W : World} {cf : Cfg} {s : SE} {n d i0 i1 : Nat} (hde : cf.de = n) (hn : n ≤ 8) (hB : Below w.heap.size w wr) (ha : HAt wr cf s (newH cf)) (j : J cf (newH cf)) (hf : ∀ k, fpE s k → w.heap.size ≤ k)
    (cfg : Blk wr w.heap.size 58 #[.int .u32 (cf.sd : Int), .int .i64 (cf.lo : Int), .int .i64 cf.de, .int .i64 cf.ah]) (hb : Below wr.heap.size wr W)
    (hd : W.heap[d]? = some (.cells #[.slice (some ⟨i0, 0, none⟩) n n, .slice (some ⟨i1, 0, none⟩) n n] 74 (0, 0)))
    (h0 : W.heap[i0]? = some (.cells (u16s (List.replicate n 0)).toArray 33 (0, 0))) (h1 : W.heap[i1]? = some (.cells (u16s (List.replicate n 0)).toArray 33 (0, 0)))
    (hne : ¬ i0 = i1) (b0 : wr.heap.size ≤ i0) (b1 : wr.heap.size ≤ i1) (bd : wr.heap.size ≤ d) :
    SU w W cf s.g d s (newH cf) (fun i => if i = 0 then .slice (some ⟨i0, 0, none⟩) n n else .slice (some ⟨i1, 0, none⟩) n n) (fun _ => List.replicate n 0) (fun _ => List.replicate n 0) 0 := by
  have hz := hB.size
  have hk : ∀ i, (newH cf).ks i = List.replicate n 0 := fun i => by
    show List.replicate cf.de.toNat 0 = _
    rw [hde, Int.toNat_natCast]
  have on : ∀ i, W.heap[i]? = some (.cells (u16s (List.replicate n 0)).toArray 33 (0, 0)) → On W 33 1 (.slice (some ⟨i, 0, none⟩) n n) (List.replicate n 0 : List Nat).length (u16s (List.replicate n 0)) := fun i hi => by
    rw [List.length_replicate]
    exact ⟨by simp [u16s], .inr ⟨i, n, _, rfl, hi, Nat.le_refl _, by simp only [maxLen]; omega, by simp [u16s], by rw [List.take_of_length_le (by simp [u16s])]⟩⟩
  refine ⟨rfl, ha.below hb, j, cfg.below hb cfg.lt, hd, fun i hi => ?_, fun i hi k hk2 => ?_, fun k hk2 hk3 => ?_, hB.trans (hb.mono hz), hf, by omega, fun i hi => hk i, by simp [newH], ?_⟩
  · obtain rfl | rfl : i = 0 ∨ i = 1 := by omega
    · exact on _ h0
    · exact on _ h1
  · obtain rfl | rfl : i = 0 ∨ i = 1 := by omega
    · have e : i0 = k := by simpa [Value.ownBlock] using hk2
      exact ⟨fun h2 => by have := ha.lt k h2; omega, by omega⟩
    · have e : i1 = k := by simpa [Value.ownBlock] using hk2
      exact ⟨fun h2 => by have := ha.lt k h2; omega, by omega⟩
  · have e : i0 = k := by simpa [Value.ownBlock] using hk2
    have e' : i1 = k := by simpa [Value.ownBlock] using hk3
    omega
  · rw [hk, List.length_replicate]
    omega
end Go.Proofs.Ytckkpgopddnkiaa.Rl
