/-
  Texts joined: RlW, RlX, RlY, OpenRo, RlZ2. No condition.
-/
import Derived.Test.YtckkpgopddnkiaaBRoll16
import Derived.MapViews
namespace Go.Proofs.Ytckkpgopddnkiaa.Rl
open Go.RowKit Go.Sort Go.Proofs.Ytckkpgopddnkiaa.Gm Go.Proofs.Ytckkpgopddnkiaa.RingE Go.Proofs.Ytckkpgopddnkiaa.Inputq
set_option linter.all false

theorem fix_counts {c : Cfg} {x : H} (j : J c x) : (fixH x).ro ≤ x.ro + 1 ∧ (fixH x).re ≤ x.re + 16 := by
  have hf := j.fromH
  unfold fixH
  split
  · exact ⟨by show x.ro ≤ x.ro + 1; omega, by show x.re ≤ x.re + 16; omega⟩
  · refine ⟨Nat.le_refl _, ?_⟩
    show x.re + fixN x ≤ x.re + 16
    unfold fixN
    omega
theorem adv_hist {c : Cfg} {x : H} {v : Nat} (j : J c x) (hv : v < 65536) (hn : x.us.length < 110) (hT : ¬ advT c x) :
    (advH c x v).ks = upd x.ks c.lo (x.ks c.lo ++ [v]) ∧ (advH c x v).us.length = x.us.length + 1 ∧ (advH c x v).ro ≤ x.ro + 1 ∧ (advH c x v).re ≤ x.re + 16 := by
  have e : advH c x v = adv3 c x v := by unfold advH; rw [if_neg hT]
  have hc := fix_counts j
  rw [e]
  exact ⟨(adv1_same j v).1, (adv2_j0 j hv hn).2, hc.1, hc.2⟩
/-- A block of an operation's copy outlives a call of an engine. -/
theorem op_keeps {wr W : World} {c : Cfg} {s : SE} {x x' : H} (h : HAt wr c s x) (ht : HTurn wr c s x' W) {k : Nat} {cs : Array Value} (hb : Blk wr k 64 cs) : Blk W k 64 cs := by
  obtain ⟨s', es, hA, hT, hF⟩ := ht.at
  exact hb.touch hT (h.other hb (by decide))

section
variable {w wr : World} {cf : Cfg} {ga gb d e : Nat} {sa sb : SE} {xa xb : H} {v0 v1 : Value} {S0 S1 T0 T1 : List Nat} {m0 m1 n0 n1 K : Nat}
theorem LT.up (h : LT w wr cf ga gb d e sa sb xa xb v0 v1 S0 S1 T0 T1 m0 m1 n0 n1 K) : LT w wr cf ga gb d e sa sb xa xb v0 v1 S0 S1 T0 T1 m0 m1 n0 n1 (K + 1) :=
  { h with mm := by have := h.mm; omega, ua := by have := h.ua; omega, ub := by have := h.ub; omega }
theorem LT.advA (h : LT w wr cf ga gb d e sa sb xa xb v0 v1 S0 S1 T0 T1 m0 m1 n0 n1 K) (hK : K < 100) (v : Nat) (hv : v < 65536) :
    Calls Try.prog 26 #[.pointer (some ⟨ga, 0, none⟩), .int .u16 v] wr fun ee w' => (∀ k cs, Blk wr k 64 cs → Blk w' k 64 cs) ∧
      ((ee = .returned (.int .i64 250) ∧ ∃ sa' xa', LT w w' cf ga gb d e sa' sb xa' xb v0 v1 S0 S1 T0 T1 m0 m1 n0 n1 (K + 1)) ∨
       (ee = .returned (.int .i64 0) ∧ ∃ sa' xa', LT w w' cf ga gb d e sa' sb xa' xb v0 v1 S0 S1 (T0 ++ [v]) T1 m0 m1 n0 n1 (K + 1))) := by
  have hu := h.ua
  have hm := h.mm
  have hc := advance_h wr (cf.of 0) sa xa v K h.ha h.ja hv (by omega) (by omega) hu.2.1 hu.2.2
  rw [h.ea] at hc
  refine hc.mono fun ee w' ⟨he, ht⟩ => ⟨fun k cs hb => op_keeps h.ha ht hb, ?_⟩
  by_cases hT : advT (cf.of 0) xa
  · left
    have e1 : advE (cf.of 0) xa = 250 := if_pos hT
    have e2 : advH (cf.of 0) xa v = xa := if_pos hT
    rw [e1] at he
    rw [e2] at ht
    refine ⟨he, ?_⟩
    obtain ⟨sa', h'⟩ := h.turnA ht h.ja h.ka0 h.ka1 rfl hm h.vv.1 hu (Nat.le_refl _)
    exact ⟨sa', xa, h'.up⟩
  · right
    have e1 : advE (cf.of 0) xa = 0 := if_neg hT
    rw [e1] at he
    refine ⟨he, ?_⟩
    obtain ⟨a1, a2, a3, a4⟩ := adv_hist h.ja hv (by omega) hT
    have k0 : (advH (cf.of 0) xa v).ks 0 = List.replicate cf.de.toNat 0 ++ (T0 ++ [v]) := by
      rw [a1]
      show upd xa.ks 0 (xa.ks 0 ++ [v]) 0 = _
      rw [upd_at, h.ka0, List.append_assoc]
    have k1 : (advH (cf.of 0) xa v).ks 1 = List.replicate cf.de.toNat 0 ++ T1.take n0 := by
      rw [a1]
      show upd xa.ks 0 (xa.ks 0 ++ [v]) 1 = _
      rw [upd_ne _ _ (by omega), h.ka1]
    obtain ⟨sa', h'⟩ := h.turnA (K' := K + 1) ht (h.ja.adv hv (by omega)) k0 k1 (by rw [List.take_append_of_le_length hm.2.1]) (by rw [List.length_append, List.length_singleton]; omega)
      (fun u hu => by rcases List.mem_append.1 hu with a | a; exact h.vv.1 u a; rw [List.mem_singleton.1 a]; exact hv) (by omega) (by omega)
    exact ⟨sa', _, h'⟩
theorem LT.advB (h : LT w wr cf ga gb d e sa sb xa xb v0 v1 S0 S1 T0 T1 m0 m1 n0 n1 K) (hK : K < 100) (v : Nat) (hv : v < 65536) :
    Calls Try.prog 26 #[.pointer (some ⟨gb, 0, none⟩), .int .u16 v] wr fun ee w' => (∀ k cs, Blk wr k 64 cs → Blk w' k 64 cs) ∧
      ((ee = .returned (.int .i64 250) ∧ ∃ sb' xb', LT w w' cf ga gb d e sa sb' xa xb' v0 v1 S0 S1 T0 T1 m0 m1 n0 n1 (K + 1)) ∨
       (ee = .returned (.int .i64 0) ∧ ∃ sb' xb', LT w w' cf ga gb d e sa sb' xa xb' v0 v1 S0 S1 T0 (T1 ++ [v]) m0 m1 n0 n1 (K + 1))) := by
  have hu := h.ub
  have hm := h.mm
  have hc := advance_h wr (cf.of 1) sb xb v K h.hb h.jb hv (by omega) (by omega) hu.2.1 hu.2.2
  rw [h.eb] at hc
  refine hc.mono fun ee w' ⟨he, ht⟩ => ⟨fun k cs hb => op_keeps h.hb ht hb, ?_⟩
  by_cases hT : advT (cf.of 1) xb
  · left
    have e1 : advE (cf.of 1) xb = 250 := if_pos hT
    have e2 : advH (cf.of 1) xb v = xb := if_pos hT
    rw [e1] at he
    rw [e2] at ht
    refine ⟨he, ?_⟩
    obtain ⟨sb', h'⟩ := h.turnB ht h.jb h.kb1 h.kb0 rfl hm h.vv.2 hu (Nat.le_refl _)
    exact ⟨sb', xb, h'.up⟩
  · right
    have e1 : advE (cf.of 1) xb = 0 := if_neg hT
    rw [e1] at he
    refine ⟨he, ?_⟩
    obtain ⟨a1, a2, a3, a4⟩ := adv_hist h.jb hv (by omega) hT
    have k1 : (advH (cf.of 1) xb v).ks 1 = List.replicate cf.de.toNat 0 ++ (T1 ++ [v]) := by
      rw [a1]
      show upd xb.ks 1 (xb.ks 1 ++ [v]) 1 = _
      rw [upd_at, h.kb1, List.append_assoc]
    have k0 : (advH (cf.of 1) xb v).ks 0 = List.replicate cf.de.toNat 0 ++ T0.take n1 := by
      rw [a1]
      show upd xb.ks 1 (xb.ks 1 ++ [v]) 0 = _
      rw [upd_ne _ _ (by omega), h.kb0]
    obtain ⟨sb', h'⟩ := h.turnB (K' := K + 1) ht (h.jb.adv hv (by omega)) k1 k0 (by rw [List.take_append_of_le_length hm.1]) (by rw [List.length_append, List.length_singleton]; omega)
      (fun u hu => by rcases List.mem_append.1 hu with a | a; exact h.vv.2 u a; rw [List.mem_singleton.1 a]; exact hv) (by omega) (by omega)
    exact ⟨sb', _, h'⟩
/-- What the other one sent comes: at the first engine, at the second one. -/
theorem LT.comeA (h : LT w wr cf ga gb d e sa sb xa xb v0 v1 S0 S1 T0 T1 m0 m1 n0 n1 K) (hK : K < 100) (hn : n0 < T1.length) :
    Calls Try.prog 27 #[.pointer (some ⟨ga, 0, none⟩), .int .u16 ((T1.getD n0 0 : Nat) : Int)] wr fun ee w' => (∃ z z', ee = .returned (.tuple #[.int .i64 z, .int .i64 z'])) ∧ ∃ sa' xa', LT w w' cf ga gb d e sa' sb xa' xb v0 v1 S0 S1 T0 T1 m0 m1 (n0 + 1) n1 (K + 1) := by
  have hu := h.ua
  have hm := h.mm
  have hde := h.ja.de
  have hde' : 0 ≤ cf.de ∧ cf.de ≤ 8 := hde
  have hx : T1[n0]? = some (T1.getD n0 0) := by rw [List.getD_eq_getElem?_getD, List.getElem?_eq_getElem hn]; rfl
  have hv : T1.getD n0 0 < 65536 := h.vv.2 _ (List.mem_of_getElem? hx)
  have hc := addRemote_h h.ha h.ja (T1.getD n0 0)
  rw [h.ea] at hc
  refine hc.mono fun ee w' ⟨he, ht⟩ => ⟨⟨_, _, he⟩, ?_⟩
  have hnt : ¬ addHT (cf.of 0) xa := by
    unfold addHT
    have e : ((cf.of 0).lo) = 0 := rfl
    rw [e, h.ka1, List.length_append, List.length_replicate, List.length_take]
    omega
  have er : addHR (cf.of 0) xa (T1.getD n0 0) = addH xa 1 (T1.getD n0 0) := by unfold addHR; rw [if_neg hnt]; rfl
  rw [er] at ht
  have jj := h.ja.addR (v := T1.getD n0 0) hv
  rw [er] at jj
  have k0 : (addH xa 1 (T1.getD n0 0)).ks 0 = List.replicate cf.de.toNat 0 ++ T0 := by
    show upd xa.ks 1 (xa.ks 1 ++ [T1.getD n0 0]) 0 = _
    rw [upd_ne _ _ (by omega), h.ka0]
  have k1 : (addH xa 1 (T1.getD n0 0)).ks 1 = List.replicate cf.de.toNat 0 ++ T1.take (n0 + 1) := by
    show upd xa.ks 1 (xa.ks 1 ++ [T1.getD n0 0]) 1 = _
    rw [upd_at, h.ka1, List.append_assoc, List.take_add_one, hx]
    rfl
  obtain ⟨sa', h'⟩ := h.turnA (K' := K + 1) ht jj k0 k1 rfl (by omega) h.vv.1 (by show xa.us.length ≤ K + 1 ∧ xa.ro ≤ K + 1 ∧ xa.re ≤ 200 * (K + 1); omega) (by omega)
  exact ⟨sa', _, h'⟩
theorem LT.comeB (h : LT w wr cf ga gb d e sa sb xa xb v0 v1 S0 S1 T0 T1 m0 m1 n0 n1 K) (hK : K < 100) (hn : n1 < T0.length) :
    Calls Try.prog 27 #[.pointer (some ⟨gb, 0, none⟩), .int .u16 ((T0.getD n1 0 : Nat) : Int)] wr fun ee w' => (∃ z z', ee = .returned (.tuple #[.int .i64 z, .int .i64 z'])) ∧ ∃ sb' xb', LT w w' cf ga gb d e sa sb' xa xb' v0 v1 S0 S1 T0 T1 m0 m1 n0 (n1 + 1) (K + 1) := by
  have hu := h.ub
  have hm := h.mm
  have hde := h.jb.de
  have hde' : 0 ≤ cf.de ∧ cf.de ≤ 8 := hde
  have hx : T0[n1]? = some (T0.getD n1 0) := by rw [List.getD_eq_getElem?_getD, List.getElem?_eq_getElem hn]; rfl
  have hv : T0.getD n1 0 < 65536 := h.vv.1 _ (List.mem_of_getElem? hx)
  have hc := addRemote_h h.hb h.jb (T0.getD n1 0)
  rw [h.eb] at hc
  refine hc.mono fun ee w' ⟨he, ht⟩ => ⟨⟨_, _, he⟩, ?_⟩
  have hnt : ¬ addHT (cf.of 1) xb := by
    unfold addHT
    have e : (1 - (cf.of 1).lo) = 0 := rfl
    rw [e, h.kb0, List.length_append, List.length_replicate, List.length_take]
    omega
  have er : addHR (cf.of 1) xb (T0.getD n1 0) = addH xb 0 (T0.getD n1 0) := by unfold addHR; rw [if_neg hnt]; rfl
  rw [er] at ht
  have jj := h.jb.addR (v := T0.getD n1 0) hv
  rw [er] at jj
  have k1 : (addH xb 0 (T0.getD n1 0)).ks 1 = List.replicate cf.de.toNat 0 ++ T1 := by
    show upd xb.ks 0 (xb.ks 0 ++ [T0.getD n1 0]) 1 = _
    rw [upd_ne _ _ (by omega), h.kb1]
  have k0 : (addH xb 0 (T0.getD n1 0)).ks 0 = List.replicate cf.de.toNat 0 ++ T0.take (n1 + 1) := by
    show upd xb.ks 0 (xb.ks 0 ++ [T0.getD n1 0]) 0 = _
    rw [upd_at, h.kb0, List.append_assoc, List.take_add_one, hx]
    rfl
  obtain ⟨sb', h'⟩ := h.turnB (K' := K + 1) ht jj k1 k0 rfl (by omega) h.vv.2 (by show xb.us.length ≤ K + 1 ∧ xb.ro ≤ K + 1 ∧ xb.re ≤ 200 * (K + 1); omega) (by omega)
  exact ⟨sb', _, h'⟩
/-- Something in the caller's own blocks has turned. -/
theorem LT.came0 (h : LT w wr cf ga gb d e sa sb xa xb v0 v1 S0 S1 T0 T1 m0 m1 n0 n1 K) (m : Nat) : LT w (wr.setCell ⟨e, 0, none⟩ (.int .i64 (m : Int))) cf ga gb d e sa sb xa xb v0 v1 S0 S1 T0 T1 m m1 n0 n1 K := by
  have hT := touch_g wr e 0 (.int .i64 (m : Int))
  have na := h.ha.other h.cam (by decide)
  have nb := h.hb.other h.cam (by decide)
  exact { h with ha := h.ha.touch hT (fun k hk e => na (e ▸ hk)), hb := h.hb.touch hT (fun k hk e => nb (e ▸ hk)), snt := h.snt.touch hT (fun e => Blk.ne_ h.snt h.cam (by decide) e), cam := h.cam.set_ 0 _, l0 := h.l0.touch hT (fun k hk e => On.blk_ne h.l0 h.cam (by decide) (e ▸ hk)), l1 := h.l1.touch hT (fun k hk e => On.blk_ne h.l1 h.cam (by decide) (e ▸ hk)), lo := h.lo.setCell h.be _ }
theorem LT.came1 (h : LT w wr cf ga gb d e sa sb xa xb v0 v1 S0 S1 T0 T1 m0 m1 n0 n1 K) (m : Nat) : LT w (wr.setCell ⟨e, 1, none⟩ (.int .i64 (m : Int))) cf ga gb d e sa sb xa xb v0 v1 S0 S1 T0 T1 m0 m n0 n1 K := by
  have hT := touch_g wr e 1 (.int .i64 (m : Int))
  have na := h.ha.other h.cam (by decide)
  have nb := h.hb.other h.cam (by decide)
  exact { h with ha := h.ha.touch hT (fun k hk e => na (e ▸ hk)), hb := h.hb.touch hT (fun k hk e => nb (e ▸ hk)), snt := h.snt.touch hT (fun e => Blk.ne_ h.snt h.cam (by decide) e), cam := h.cam.set_ 1 _, l0 := h.l0.touch hT (fun k hk e => On.blk_ne h.l0 h.cam (by decide) (e ▸ hk)), l1 := h.l1.touch hT (fun k hk e => On.blk_ne h.l1 h.cam (by decide) (e ▸ hk)), lo := h.lo.setCell h.be _ }
/-- An append to a sent list. -/
theorem LT.app0 (h : LT w wr cf ga gb d e sa sb xa xb v0 v1 S0 S1 T0 T1 m0 m1 n0 n1 K) (hS : S0.length ≤ 1000) (x : Nat) :
    ∃ a2 c2 w3, (appI #[73, 73] 73 #[v0, .slice (some ⟨wr.heap.size, 0, none⟩) 1 1]).run Try.prog (wr.alloc (.cells #[.int .u16 (x : Int)] 33)) = .ok (.slice a2 (S0.length + 1) c2) w3 ∧ Blk w3 d 74 #[v0, v1] ∧
      LT w (w3.setCell ⟨d, 0, none⟩ (.slice a2 (S0.length + 1) c2)) cf ga gb d e sa sb xa xb (.slice a2 (S0.length + 1) c2) v1 (S0 ++ [x]) S1 T0 T1 m0 m1 n0 n1 K := by
  have h1 := h.below ((Below.refl _ wr).alloc (Nat.le_refl _) (.cells #[.int .u16 (x : Int)] 33))
  obtain ⟨a2, c2, w3, hrun, hon, hg, hown⟩ := app_one _ v0 S0 wr.heap.size x h1.l0 (Blk.new _ _ _) hS
  have hT : Touch (fun k => v0.ownBlock = some k) (wr.alloc (.cells #[.int .u16 (x : Int)] 33)) w3 := (Touch.refl _ _).grown hg (fun k hk => .inl hk)
  have nd : ¬ v0.ownBlock = some d := On.blk_ne h1.l0 h1.snt (by decide)
  have ne : ¬ v0.ownBlock = some e := On.blk_ne h1.l0 h1.cam (by decide)
  have hd := h1.snt.touch hT nd
  have hsz := h1.lo.size
  refine ⟨a2, c2, w3, hrun, hd, ?_⟩
  have hA := h1.ha.touch hT (fun k hk hk2 => (h1.q0 k hk2).1 hk)
  have hB := h1.hb.touch hT (fun k hk hk2 => (h1.q0 k hk2).2.1 hk)
  have he := h1.cam.touch hT ne
  have hl1 := h1.l1.touch hT (fun k hk hk2 => (h1.q0 k hk2).2.2 hk)
  have hT2 := touch_g w3 d 0 (.slice a2 (S0.length + 1) c2)
  have nda := hA.other hd (by decide)
  have ndb := hB.other hd (by decide)
  have hlo : Below w.heap.size w w3 := h1.lo.trans (hT.below hsz h1.b0)
  exact { h1 with
    ha := hA.touch hT2 (fun k hk e => nda (e ▸ hk)), hb := hB.touch hT2 (fun k hk e => ndb (e ▸ hk)), snt := hd.set_ 0 _, cam := he.touch hT2 (fun e' => Blk.ne_ hd he (by decide) e'.symm),
    l0 := hon.touch hT2 (fun k hk e => On.blk_ne hon hd (by decide) (e ▸ hk)), l1 := hl1.touch hT2 (fun k hk e => On.blk_ne hl1 hd (by decide) (e ▸ hk)),
    q0 := fun k hk => by
      rcases hown k hk with a | a
      · exact h1.q0 k a
      · refine ⟨fun h2 => ?_, fun h2 => ?_, fun h2 => ?_⟩
        · have := h1.ha.lt k h2; omega
        · have := h1.hb.lt k h2; omega
        · have := h1.l1.lt k h2; omega
    lo := hlo.setCell h1.bd _
    b0 := fun k hk => by
      rcases hown k hk with a | a
      · exact h1.b0 k a
      · rw [a]; exact hsz }
theorem LT.app1 (h : LT w wr cf ga gb d e sa sb xa xb v0 v1 S0 S1 T0 T1 m0 m1 n0 n1 K) (hS : S1.length ≤ 1000) (x : Nat) :
    ∃ a2 c2 w3, (appI #[73, 73] 73 #[v1, .slice (some ⟨wr.heap.size, 0, none⟩) 1 1]).run Try.prog (wr.alloc (.cells #[.int .u16 (x : Int)] 33)) = .ok (.slice a2 (S1.length + 1) c2) w3 ∧ Blk w3 d 74 #[v0, v1] ∧
      LT w (w3.setCell ⟨d, 1, none⟩ (.slice a2 (S1.length + 1) c2)) cf ga gb d e sa sb xa xb v0 (.slice a2 (S1.length + 1) c2) S0 (S1 ++ [x]) T0 T1 m0 m1 n0 n1 K := by
  have h1 := h.below ((Below.refl _ wr).alloc (Nat.le_refl _) (.cells #[.int .u16 (x : Int)] 33))
  obtain ⟨a2, c2, w3, hrun, hon, hg, hown⟩ := app_one _ v1 S1 wr.heap.size x h1.l1 (Blk.new _ _ _) hS
  have hT : Touch (fun k => v1.ownBlock = some k) (wr.alloc (.cells #[.int .u16 (x : Int)] 33)) w3 := (Touch.refl _ _).grown hg (fun k hk => .inl hk)
  have nd : ¬ v1.ownBlock = some d := On.blk_ne h1.l1 h1.snt (by decide)
  have ne : ¬ v1.ownBlock = some e := On.blk_ne h1.l1 h1.cam (by decide)
  have hd := h1.snt.touch hT nd
  have hsz := h1.lo.size
  refine ⟨a2, c2, w3, hrun, hd, ?_⟩
  have hA := h1.ha.touch hT (fun k hk hk2 => (h1.q1 k hk2).1 hk)
  have hB := h1.hb.touch hT (fun k hk hk2 => (h1.q1 k hk2).2 hk)
  have he := h1.cam.touch hT ne
  have hl0 := h1.l0.touch hT (fun k hk hk2 => (h1.q0 k hk).2.2 hk2)
  have hT2 := touch_g w3 d 1 (.slice a2 (S1.length + 1) c2)
  have nda := hA.other hd (by decide)
  have ndb := hB.other hd (by decide)
  have hlo : Below w.heap.size w w3 := h1.lo.trans (hT.below hsz h1.b1)
  exact { h1 with
    ha := hA.touch hT2 (fun k hk e => nda (e ▸ hk)), hb := hB.touch hT2 (fun k hk e => ndb (e ▸ hk)), snt := hd.set_ 1 _, cam := he.touch hT2 (fun e' => Blk.ne_ hd he (by decide) e'.symm),
    l1 := hon.touch hT2 (fun k hk e => On.blk_ne hon hd (by decide) (e ▸ hk)), l0 := hl0.touch hT2 (fun k hk e => On.blk_ne hl0 hd (by decide) (e ▸ hk)),
    q0 := fun k hk => ⟨(h1.q0 k hk).1, (h1.q0 k hk).2.1, fun h2 => by
      rcases hown k h2 with a | a
      · exact (h1.q0 k hk).2.2 a
      · have := h1.l0.lt k hk; omega⟩
    q1 := fun k hk => by
      rcases hown k hk with a | a
      · exact h1.q1 k a
      · refine ⟨fun h2 => ?_, fun h2 => ?_⟩
        · have := h1.ha.lt k h2; omega
        · have := h1.hb.lt k h2; omega
    lo := hlo.setCell h1.bd _
    b1 := fun k hk => by
      rcases hown k hk with a | a
      · exact h1.b1 k a
      · rw [a]; exact hsz }
end
end Go.Proofs.Ytckkpgopddnkiaa.Rl
namespace Go.Proofs.Ytckkpgopddnkiaa.Rl
open Go.RowKit Go.Sort Go.Proofs.Ytckkpgopddnkiaa.Gm Go.Proofs.Ytckkpgopddnkiaa.RingE Go.Proofs.Ytckkpgopddnkiaa.Inputq
set_option linter.all false

theorem take_same {l T : List Nat} {n i : Nat} (h : i < (l ++ T.take n).length) : (l ++ T)[i]? = (l ++ T.take n)[i]? := by
  by_cases h1 : i < l.length
  · rw [List.getElem?_append_left h1, List.getElem?_append_left h1]
  · rw [List.getElem?_append_right (by omega), List.getElem?_append_right (by omega), List.getElem?_take]
    rw [List.length_append, List.length_take] at h
    rw [if_pos (by omega)]
section
variable {w wr : World} {cf : Cfg} {ga gb d e : Nat} {sa sb : SE} {xa xb : H} {v0 v1 : Value} {S0 S1 T0 T1 : List Nat} {m0 m1 n0 n1 K : Nat}
theorem LT.sums (h : LT w wr cf ga gb d e sa sb xa xb v0 v1 S0 S1 T0 T1 m0 m1 n0 n1 K) (n : Nat) (h1 : (n : Int) ≤ sureH xa) (h2 : (n : Int) ≤ sureH xb) :
    ∃ x y p q : Int, (p = 0 ∨ p = 90) ∧ (q = 0 ∨ q = 90) ∧ (p = 0 → q = 0 → x = y) ∧
      (∀ W, Below wr.heap.size wr W → Calls Try.prog 38 #[.pointer (some ⟨ga, 0, none⟩), .int .i64 (n : Int)] W fun e w' => e = .returned (.tuple #[.int .u32 x, .int .i64 p]) ∧ Below W.heap.size W w') ∧
      (∀ W, Below wr.heap.size wr W → Calls Try.prog 38 #[.pointer (some ⟨gb, 0, none⟩), .int .i64 (n : Int)] W fun e w' => e = .returned (.tuple #[.int .u32 y, .int .i64 q]) ∧ Below W.heap.size W w') := by
  have hsa := (sureH_le xa).1
  have hsb := (sureH_le xb).1
  have ha := h.ja.un
  have hb := h.jb.un
  refine ⟨atHS (cf.of 0) xa n, atHS (cf.of 1) xb n, atHE xa n, atHE xb n, ?_, ?_, fun p0 q0 => ?_, fun W hW => ?_, fun W hW => ?_⟩
  · unfold atHE; rw [if_neg (by omega)]; split <;> simp
  · unfold atHE; rw [if_neg (by omega)]; split <;> simp
  · unfold atHS
    rw [if_pos p0, if_pos q0, Int.toNat_natCast]
    have := sums_same h.ja h.jb rfl (fun k hk i hi hj => by
      obtain rfl | rfl : k = 0 ∨ k = 1 := by omega
      · rw [h.ka0, h.kb0]; rw [h.kb0] at hj; exact take_same hj
      · rw [h.ka1, h.kb1]; rw [h.ka1] at hi; exact (take_same hi).symm) h1 h2
    rw [this]
  · have := sum_h W (cf.of 0) sa xa n (h.ha.below hW) h.ja (by omega)
    rw [h.ea] at this
    exact this
  · have := sum_h W (cf.of 1) sb xb n (h.hb.below hW) h.jb (by omega)
    rw [h.eb] at this
    exact this
theorem LT.sure (h : LT w wr cf ga gb d e sa sb xa xb v0 v1 S0 S1 T0 T1 m0 m1 n0 n1 K) :
    (∀ n, Calls Try.prog 30 #[.pointer (some ⟨ga, 0, none⟩)] (wr.drewN n) fun e w' => e = .returned (.int .i64 (sureH xa)) ∧ ∃ m, w' = (wr.drewN n).drewN m) ∧
    (∀ n, Calls Try.prog 30 #[.pointer (some ⟨gb, 0, none⟩)] (wr.drewN n) fun e w' => e = .returned (.int .i64 (sureH xb)) ∧ ∃ m, w' = (wr.drewN n).drewN m) := by
  refine ⟨fun n => ?_, fun n => ?_⟩
  · have := sure_h (h.ha.below (below_drewN (Below.refl _ wr) n)) h.ja.j0
    rw [h.ea] at this
    exact this
  · have := sure_h (h.hb.below (below_drewN (Below.refl _ wr) n)) h.jb.j0
    rw [h.eb] at this
    exact this
theorem LT.start {w3 : World} (hB : Below w.heap.size w w3) (ha : HAt w3 (cf.of 0) sa (newH (cf.of 0))) (hb : HAt w3 (cf.of 1) sb (newH (cf.of 1))) (fa : ∀ k, fpE sa k → w.heap.size ≤ k) (fb : ∀ k, fpE sb k → w.heap.size ≤ k) (dis : ∀ k, fpE sa k → ¬ fpE sb k)
    (ja : J (cf.of 0) (newH (cf.of 0))) (jb : J (cf.of 1) (newH (cf.of 1))) :
    LT w ((w3.alloc (.cells #[.slice none 0 0, .slice none 0 0] 74)).alloc (.cells #[.int .i64 0, .int .i64 0] 51)) cf sa.g sb.g w3.heap.size (w3.heap.size + 1) sa sb (newH (cf.of 0)) (newH (cf.of 1)) (.slice none 0 0) (.slice none 0 0) [] [] [] [] 0 0 0 0 0 := by
  have hb3 : Below w3.heap.size w3 ((w3.alloc (.cells #[.slice none 0 0, .slice none 0 0] 74)).alloc (.cells #[.int .i64 0, .int .i64 0] 51)) := ((Below.refl _ w3).alloc (Nat.le_refl _) _).alloc (by simp) _
  have hn : ∀ g, Value.ownBlock (.slice none 0 0) = some g → False := fun g h => by simp [Value.ownBlock] at h
  have hz := hB.size
  refine ⟨rfl, rfl, ha.below hb3, hb.below hb3, ja, jb, dis, (Blk.new _ _ _).alloc _, ?_, On.nil _ _ _, On.nil _ _ _, fun k hk => (hn k hk).elim, fun k hk => (hn k hk).elim, hB.trans (hb3.mono hz), fa, fb, fun k hk => (hn k hk).elim, fun k hk => (hn k hk).elim, hz, by omega, by simp [newH]; rfl, by simp [newH]; rfl, by simp [newH]; rfl, by simp [newH]; rfl, by simp, ⟨fun v hv => by simp at hv, fun v hv => by simp at hv⟩, by simp [newH], by simp [newH]⟩
  have := Blk.new (w3.alloc (.cells #[.slice none 0 0, .slice none 0 0] 74)) 51 #[.int .i64 0, .int .i64 0]
  simpa using this
/-- A list that was sent, in memory. -/
theorem sent_at {v : Value} {S : List Nat} (h : On wr 33 1 v S.length (u16s S)) : ∃ a c, v = .slice a S.length c ∧ ∀ i, i < S.length → ∃ g, a = some ⟨g, 0, none⟩ ∧ wr.cell? ⟨g, i, none⟩ = some (.int .u16 ((S.getD i 0 : Nat) : Int)) := by
  rcases h.form with ⟨rfl, h0, _⟩ | ⟨g, cap, hv, hnc, hcm, hown, hlt, hc, hf⟩
  · exact ⟨none, 0, by rw [h0], fun i hi => by omega⟩
  · refine ⟨_, cap, hv, fun i hi => ⟨g, rfl, hc i _ ?_⟩⟩
    unfold u16s
    rw [List.getElem?_map, List.getD_eq_getElem?_getD, List.getElem?_eq_getElem hi]
    rfl
end
end Go.Proofs.Ytckkpgopddnkiaa.Rl
namespace Go.Proofs.Ytckkpgopddnkiaa.Rl
open Go.RowKit Go.Sort Go.Proofs.Ytckkpgopddnkiaa.Gm Go.Proofs.Ytckkpgopddnkiaa.RingE Go.Proofs.Ytckkpgopddnkiaa.Inputq
set_option linter.all false

set_option maxRecDepth 100000 in
set_option maxHeartbeats 4000000 in
theorem two_out (w : World) (sd lo de ah : Int) (v : Value) (hr : rightB lo de ah = false) :
    Calls Try.prog 6 #[.agg #[.int .u32 sd, .int .i64 lo, .int .i64 de, .int .i64 ah], v] w fun e w' => e = .returned (.bool true) ∧ Below w.heap.size w w' := by
  have pA := Lib.hid (fun W => awake25 W)
  have pR := Lib.hid (show ∀ W, Calls Try.prog 33 #[.agg #[.int .u32 sd, .int .i64 lo, .int .i64 de, .int .i64 ah]] W fun e w' => e = .returned (.bool false) ∧ Below W.heap.size W w' from fun W => by
    have := right_law W sd lo de ah
    rw [hr] at this
    exact this)
  obtain ⟨W1, hW1⟩ : ∃ W1, W1 = w.alloc (.cells #[.int .u32 sd, .int .i64 lo, .int .i64 de, .int .i64 ah] 58) := ⟨_, rfl⟩
  have hX : Blk W1 w.heap.size 58 #[.int .u32 sd, .int .i64 lo, .int .i64 de, .int .i64 ah] := by rw [hW1]; exact Blk.new _ _ _
  have hB : Below w.heap.size w W1 := by rw [hW1]; exact (Below.refl _ w).alloc (Nat.le_refl _) _
  go_enter Try.func6, Try.ntmps6
  go_upto_region 1 with fail
  rw [← hW1]
  clear hW1
  go_wp2_with fail
  refine (pA.out _).mono ?_
  rintro e w1 ⟨rfl, b1⟩
  have hX1 := hX.below b1 hX.lt
  have k0 := hX1.cell 0
  have k1 := hX1.cell 1
  have k2 := hX1.cell 2
  have k3 := hX1.cell 3
  simp only [List.getElem?_toArray, List.getElem?_cons_zero, List.getElem?_cons_succ] at k0 k1 k2 k3
  have HB := Lib.hid (hB.trans (b1.mono hB.size))
  clear hX hX1 hB b1
  go_wp2_with fail
  refine (pR.out _).mono ?_
  rintro e w2 ⟨rfl, b2⟩
  have HB2 := Lib.hid (HB.out.trans (b2.mono HB.out.size))
  clear b2
  go_wp2_with fail
  go_ret
  exact ⟨rfl, HB2.out⟩

section
attribute [local go_sem ↓] append_I
set_option maxRecDepth 100000 in
set_option maxHeartbeats 16000000 in
theorem two_in (w : World) (sd lo : Nat) (de ah : Int) (hsd : sd < 4294967296) (hlo : lo < 2) (hde : 0 ≤ de ∧ de ≤ 8) (hah : 1 ≤ ah ∧ ah ≤ 16) (a : Option Addr) (c : Nat) (ops : List (Int × Nat × Int)) (hops : ROps w a ops) (hlen : ops.length ≤ 9223372036854775807) :
    Calls Try.prog 6 #[.agg #[.int .u32 (sd : Int), .int .i64 (lo : Int), .int .i64 de, .int .i64 ah], .slice a ops.length c] w fun e w' => e = .returned (.bool true) ∧ Below w.heap.size w w' := by
  have pA := Lib.hid (fun W => awake25 W)
  have pR := Lib.hid (show ∀ W, Calls Try.prog 33 #[.agg #[.int .u32 (sd : Int), .int .i64 (lo : Int), .int .i64 de, .int .i64 ah]] W fun e w' => e = .returned (.bool true) ∧ Below W.heap.size W w' from fun W => by
    have := right_law W sd lo de ah
    rw [show rightB (lo : Int) de ah = true by unfold rightB; simp; omega] at this
    exact this)
  obtain ⟨cf, hcf⟩ : ∃ cf : Cfg, cf = ⟨sd, lo, de, ah⟩ := ⟨_, rfl⟩
  have hj0 : J (cf.of 0) (newH (cf.of 0)) := by rw [hcf]; exact newH_J hsd (show (0 : Nat) < 2 by omega) hah hde
  have hj1 : J (cf.of 1) (newH (cf.of 1)) := by rw [hcf]; exact newH_J hsd (show (1 : Nat) < 2 by omega) hah hde
  have pN0 := Lib.hid (show ∀ W, Calls Try.prog 25 #[.agg #[.int .u32 (sd : Int), .int .i64 0, .int .i64 de, .int .i64 ah]] W fun e w' => ∃ s, e = .returned (.tuple #[.pointer (some ⟨s.g, 0, none⟩), .int .i64 0]) ∧ HAt w' (cf.of 0) s (newH (cf.of 0)) ∧ Below W.heap.size W w' ∧ ∀ k, fpE s k → W.heap.size ≤ k from fun W => by
    rw [hcf]; exact new_any W ⟨sd, 0, de, ah⟩ hsd (show (0 : Nat) < 2 by omega) hah hde)
  have pN1 := Lib.hid (show ∀ W, Calls Try.prog 25 #[.agg #[.int .u32 (sd : Int), .int .i64 1, .int .i64 de, .int .i64 ah]] W fun e w' => ∃ s, e = .returned (.tuple #[.pointer (some ⟨s.g, 0, none⟩), .int .i64 0]) ∧ HAt w' (cf.of 1) s (newH (cf.of 1)) ∧ Below W.heap.size W w' ∧ ∀ k, fpE s k → W.heap.size ≤ k from fun W => by
    rw [hcf]; exact new_any W ⟨sd, 1, de, ah⟩ hsd (show (1 : Nat) < 2 by omega) hah hde)
  have HJ0 := Lib.hid hj0
  have HJ1 := Lib.hid hj1
  have HOPS := Lib.hid hops
  obtain ⟨l, hl⟩ : ∃ l, ops.length = l := ⟨_, rfl⟩
  have HL := Lib.hid hl
  rw [hl]
  rw [hl] at hlen
  obtain ⟨W1, hW1⟩ : ∃ W1, W1 = w.alloc (.cells #[.int .u32 (sd : Int), .int .i64 (lo : Int), .int .i64 de, .int .i64 ah] 58) := ⟨_, rfl⟩
  have hX : Blk W1 w.heap.size 58 #[.int .u32 (sd : Int), .int .i64 (lo : Int), .int .i64 de, .int .i64 ah] := by rw [hW1]; exact Blk.new _ _ _
  have hB : Below w.heap.size w W1 := by rw [hW1]; exact (Below.refl _ w).alloc (Nat.le_refl _) _
  clear hops hl hj0 hj1 hcf hsd hlo hde hah
  go_enter Try.func6, Try.ntmps6
  go_upto_region 1 with fail
  rw [← hW1]
  clear hW1
  go_wp2_with fail
  refine (pA.out _).mono ?_
  rintro e w1 ⟨rfl, b1⟩
  have hX1 := hX.below b1 hX.lt
  have k0 := hX1.cell 0
  have k1 := hX1.cell 1
  have k2 := hX1.cell 2
  have k3 := hX1.cell 3
  simp only [List.getElem?_toArray, List.getElem?_cons_zero, List.getElem?_cons_succ] at k0 k1 k2 k3
  have HX1 := Lib.hid hX1
  have HB := Lib.hid (hB.trans (b1.mono hB.size))
  clear hX hX1 hB b1
  go_wp2_with fail
  refine (pR.out _).mono ?_
  rintro e w2 ⟨rfl, b2⟩
  have hX2 := HX1.out.below b2 HX1.out.lt
  have k0 := hX2.cell 0
  have k1 := hX2.cell 1
  have k2 := hX2.cell 2
  have k3 := hX2.cell 3
  have f1 := hX2.frozen 1
  simp only [List.getElem?_toArray, List.getElem?_cons_zero, List.getElem?_cons_succ] at k0 k1 k2 k3
  have HX2 := Lib.hid (Blk.set_ hX2 1 (.int .i64 0))
  have HB2 := Lib.hid ((HB.out.trans (b2.mono HB.out.size)).setCell (p := ⟨w.heap.size, 1, none⟩) (Nat.le_refl _) (.int .i64 0))
  clear hX2 b2 HB HX1
  go_wp2_with fail
  refine (pN0.out _).mono ?_
  rintro e w3 ⟨sa, rfl, hA, b3, fa⟩
  have hX3 := HX2.out.below b3 HX2.out.lt
  have k0 := hX3.cell 0
  have k1 := hX3.cell 1
  have k2 := hX3.cell 2
  have k3 := hX3.cell 3
  have f1 := hX3.frozen 1
  simp only [List.getElem?_toArray, List.setIfInBounds_toArray, List.set_cons_zero, List.set_cons_succ, List.getElem?_cons_zero, List.getElem?_cons_succ] at k0 k1 k2 k3
  have hz2 := HB2.out.size
  have HFA := Lib.hid (show ∀ k, fpE sa k → w.heap.size < k from fun k hk => by have := fa k hk; have := HX2.out.lt; omega)
  have HB3 := Lib.hid ((HB2.out.trans (b3.mono HB2.out.size)).setCell (p := ⟨w.heap.size, 1, none⟩) (Nat.le_refl _) (.int .i64 1))
  have HA := Lib.hid (show HAt (w3.setCell ⟨w.heap.size, 1, none⟩ (.int .i64 1)) (cf.of 0) sa (newH (cf.of 0)) from hA.touch (touch_g w3 w.heap.size 1 _) (fun k hk e => by have := HFA.out k hk; have e' : k = w.heap.size := e; omega))
  clear hX3 b3 HB2 HX2 hA fa hz2
  go_wp2_with fail
  refine (pN1.out _).mono ?_
  rintro e w4 ⟨sb, rfl, hBt, b4, fb⟩
  have HLT0 := Lib.hid (LT.start (w := w) (HB3.out.trans (b4.mono HB3.out.size)) (HA.out.below b4) hBt (fun k hk => Nat.le_of_lt (HFA.out k hk)) (fun k hk => Nat.le_trans HB3.out.size (fb k hk)) (fun k hk hk2 => by have := fb k hk2; have := HA.out.lt k hk; omega) HJ0.out HJ1.out)
  obtain ⟨ga, hga⟩ : ∃ ga, sa.g = ga := ⟨_, rfl⟩
  obtain ⟨gb, hgb⟩ : ∃ gb, sb.g = gb := ⟨_, rfl⟩
  obtain ⟨d, hd⟩ : ∃ d, w4.heap.size = d := ⟨_, rfl⟩
  rw [hga, hgb, hd] at HLT0
  rw [hga, hgb]
  clear HB3 HA HFA hBt b4 fb k0 k1 k2 k3 f1 hga hgb
  obtain ⟨W5, hW5⟩ : ∃ W5, W5 = (w4.alloc (.cells #[.slice none 0 0, .slice none 0 0] 74)).alloc (.cells #[.int .i64 0, .int .i64 0] 51) := ⟨_, rfl⟩
  have hsz : (w4.alloc (.cells #[.slice none 0 0, .slice none 0 0] 74)).heap.size = d + 1 := by rw [← hd]; simp
  rw [← hW5] at HLT0
  go_upto_region 13 with fail
  (try rw [hsz])
  (try rw [← hW5])
  (try rw [hd])
  clear hW5 hsz hd
  obtain ⟨e0, he0⟩ : ∃ e0, d + 1 = e0 := ⟨_, rfl⟩
  (try rw [he0])
  rw [he0] at HLT0
  clear he0
  go_wp2_with fail
  (try simp only [Bool.or_false, Bool.and_true, Bool.or_self, Bool.and_self, Bool.true_and, Bool.false_or])
  go_loopw [11] (fun iv wr => ∃ (i : Nat) (sa sb : SE) (xa xb : H) (v0 v1 : Value) (S0 S1 : List Nat) (m0 m1 : Nat), i ≤ 100 ∧ iv = .int .i64 (i : Int) ∧ LT w wr cf ga gb d e0 sa sb xa xb v0 v1 S0 S1 S0 S1 m0 m1 m0 m1 i) (fun iv _ => 100 - (intOf iv).toNat)
  case atStart => exact ⟨0, sa, sb, _, _, _, _, [], [], 0, 0, by omega, rfl, HLT0.out⟩
  case round =>
    clear HLT0 HJ0 HJ1 pN0 pN1 pA pR
    obtain ⟨i, sa, sb, xa, xb, v0, v1, S0, S1, m0, m1, hi, rfl, hX⟩ := hrel
    have HX := Lib.hid hX
    by_cases c1 : i < l
    · have c1' : (i : Int) < (l : Int) := by omega
      have c1'' : decide ((i : Int) < (l : Int)) = true := by simp; omega
      by_cases c2 : i < 100
      · have c2' : (i : Int) < 100 := by omega
        obtain ⟨o, ho⟩ : ∃ o, ops[i]? = some o := ⟨_, List.getElem?_eq_getElem (by rw [HL.out]; exact c1)⟩
        obtain ⟨hb1, hb2, hb3⟩ := HOPS.out.1 o (List.mem_of_getElem? ho)
        obtain ⟨b, off, rfl, hbl, hcs⟩ := HOPS.out.2 (by rw [HL.out]; omega)
        obtain ⟨k0, k1, k2⟩ := hcs i o ho
        obtain ⟨kd, x, of⟩ := o
        have z0 : wr.cell? ⟨b, off + i * 3, none⟩ = some (.int .i64 kd) := (HX.out.lo.cell (p := ⟨b, off + i * 3, none⟩) hbl).trans k0
        have z1 : wr.cell? ⟨b, off + i * 3 + 1, none⟩ = some (.int .u16 (x : Int)) := (HX.out.lo.cell (p := ⟨b, off + i * 3 + 1, none⟩) hbl).trans k1
        have z2 : wr.cell? ⟨b, off + i * 3 + 1 + 1, none⟩ = some (.int .i64 of) := (HX.out.lo.cell (p := ⟨b, off + i * 3 + 1 + 1, none⟩) hbl).trans k2
        simp only at hb1 hb2 hb3
        have j0 : (0 : Int) ≤ (i : Int) := by omega
        have hO : Blk (wr.alloc (.cells #[.int .i64 kd, .int .u16 (x : Int), .int .i64 of] 64)) wr.heap.size 64 #[.int .i64 kd, .int .u16 (x : Int), .int .i64 of] := Blk.new _ _ _
        have HX6 := Lib.hid (HX.out.below ((Below.refl _ wr).alloc (Nat.le_refl _) (.cells #[.int .i64 kd, .int .u16 (x : Int), .int .i64 of] 64)))
        have HO := Lib.hid hO
        clear hcs k0 k1 k2 hX HX hO ho
        by_cases e0 : kd = 0
        · subst e0
          have pV := Lib.hid (HX6.out.advA (by omega) x hb1)
          clear HX6
          go_wp2_with fail
          refine pV.out.mono ?_
          rintro ee w7 ⟨hkeep, ⟨rfl, s', x', h7⟩ | ⟨rfl, s', x', h7⟩⟩
          · have H7 := Lib.hid h7
            clear h7 hkeep pV
            go_wp2_with fail
            go_roundw
            case rel => exact ⟨i + 1, s', sb, x', xb, _, _, S0, S1, m0, m1, by omega, by go_num, H7.out⟩
            case measure => simp [intOf]; omega
          · have hO7 := hkeep _ _ HO.out
            have y1 := hO7.cell 1
            simp only [List.getElem?_toArray, List.getElem?_cons_zero, List.getElem?_cons_succ] at y1
            have hS : S0.length ≤ 1000 := by have := h7.mm; simp at this; omega
            obtain ⟨va, vc, hv, hvc, hvm⟩ := h7.l0.slice
            obtain ⟨wa, wc, hw', hwc, hwm⟩ := h7.l1.slice
            obtain ⟨a2, c2x, w8, hrun, hd8, h8⟩ := h7.app0 hS x
            subst hv
            subst hw'
            have d0 := h7.snt.cell 0
            have d1 := h7.snt.cell 1
            have e0' := (h7.snt.alloc (.cells #[.int .u16 (x : Int)] 33)).cell 0
            have e1' := (h7.snt.alloc (.cells #[.int .u16 (x : Int)] 33)).cell 1
            have g0 := hd8.cell 0
            have g1 := hd8.cell 1
            simp only [List.getElem?_toArray, List.getElem?_cons_zero, List.getElem?_cons_succ] at d0 d1 e0' e1' g0 g1
            have g0f := hd8.frozen 0
            have g1f := hd8.frozen 1
            have H8 := Lib.hid h8
            clear h7 h8 hd8 hkeep pV hO7
            go_wp2_with fail
            go_roundw
            case rel => exact ⟨i + 1, s', sb, x', xb, _, _, S0 ++ [x], S1, m0, m1, by omega, by go_num, H8.out⟩
            case measure => simp [intOf]; omega
        by_cases e1 : kd = 1
        · subst e1
          clear e0
          have pV := Lib.hid (HX6.out.advB (by omega) x hb1)
          clear HX6
          go_wp2_with fail
          refine pV.out.mono ?_
          rintro ee w7 ⟨hkeep, ⟨rfl, s', x', h7⟩ | ⟨rfl, s', x', h7⟩⟩
          · have H7 := Lib.hid h7
            clear h7 hkeep pV
            go_wp2_with fail
            go_roundw
            case rel => exact ⟨i + 1, sa, s', xa, x', _, _, S0, S1, m0, m1, by omega, by go_num, H7.out⟩
            case measure => simp [intOf]; omega
          · have hO7 := hkeep _ _ HO.out
            have y1 := hO7.cell 1
            simp only [List.getElem?_toArray, List.getElem?_cons_zero, List.getElem?_cons_succ] at y1
            have hS : S1.length ≤ 1000 := by have := h7.mm; simp at this; omega
            obtain ⟨va, vc, hv, hvc, hvm⟩ := h7.l1.slice
            obtain ⟨wa, wc, hw', hwc, hwm⟩ := h7.l0.slice
            obtain ⟨a2, c2x, w8, hrun, hd8, h8⟩ := h7.app1 hS x
            subst hv
            subst hw'
            have d0 := h7.snt.cell 0
            have d1 := h7.snt.cell 1
            have e0' := (h7.snt.alloc (.cells #[.int .u16 (x : Int)] 33)).cell 0
            have e1' := (h7.snt.alloc (.cells #[.int .u16 (x : Int)] 33)).cell 1
            have g0 := hd8.cell 0
            have g1 := hd8.cell 1
            simp only [List.getElem?_toArray, List.getElem?_cons_zero, List.getElem?_cons_succ] at d0 d1 e0' e1' g0 g1
            have g0f := hd8.frozen 0
            have g1f := hd8.frozen 1
            have H8 := Lib.hid h8
            clear h7 h8 hd8 hkeep pV hO7
            go_wp2_with fail
            go_roundw
            case rel => exact ⟨i + 1, sa, s', xa, x', _, _, S0, S1 ++ [x], m0, m1, by omega, by go_num, H8.out⟩
            case measure => simp [intOf]; omega
        by_cases e2 : kd = 2
        · subst e2
          clear e0 e1
          obtain ⟨va, vc, hv, hvat⟩ := sent_at HX6.out.l1
          subst hv
          have d0 := HX6.out.snt.cell 1
          have m0' := HX6.out.cam.cell 0
          have mm := HX6.out.mm
          simp only [List.getElem?_toArray, List.getElem?_cons_zero, List.getElem?_cons_succ] at d0 m0'
          by_cases hlt : m0 < S1.length
          · have hlt' : (m0 : Int) < (S1.length : Int) := by omega
            obtain ⟨g, rfl, hg⟩ := hvat m0 hlt
            have pV := Lib.hid (HX6.out.comeA (by omega) hlt)
            generalize S1.getD m0 0 = inp at *
            have hm1 : IntKind.i64.wrap ((m0 : Int) + 1) = ((m0 + 1 : Nat) : Int) := by rw [IntWalk.i64_in _ (by omega)]; omega
            have n0 : (0 : Int) ≤ (m0 : Int) := by omega
            clear HX6 hvat mm
            go_wp2_with fail
            refine pV.out.mono ?_
            rintro ee w7 ⟨⟨z, z', rfl⟩, s', x', h7⟩
            have m0' := h7.cam.cell 0
            simp only [List.getElem?_toArray, List.getElem?_cons_zero, List.getElem?_cons_succ] at m0'
            have mf := h7.cam.frozen 0
            have H8 := Lib.hid (h7.came0 (m0 + 1))
            clear h7 pV
            go_wp2_with fail
            go_roundw
            case rel => exact ⟨i + 1, s', sb, x', xb, _, _, S0, S1, m0 + 1, m1, by omega, by go_num, H8.out⟩
            case measure => simp [intOf]; omega
          · have hlt' : ¬ (m0 : Int) < (S1.length : Int) := by omega
            have H8 := Lib.hid HX6.out.up
            clear HX6 hvat mm
            go_wp2_with fail
            go_roundw
            case rel => exact ⟨i + 1, sa, sb, xa, xb, _, _, S0, S1, m0, m1, by omega, by go_num, H8.out⟩
            case measure => simp [intOf]; omega
        by_cases e3 : kd = 3
        · subst e3
          clear e0 e1 e2
          obtain ⟨va, vc, hv, hvat⟩ := sent_at HX6.out.l0
          subst hv
          have d0 := HX6.out.snt.cell 0
          have m0' := HX6.out.cam.cell 1
          have mm := HX6.out.mm
          simp only [List.getElem?_toArray, List.getElem?_cons_zero, List.getElem?_cons_succ] at d0 m0'
          by_cases hlt : m1 < S0.length
          · have hlt' : (m1 : Int) < (S0.length : Int) := by omega
            obtain ⟨g, rfl, hg⟩ := hvat m1 hlt
            have pV := Lib.hid (HX6.out.comeB (by omega) hlt)
            generalize S0.getD m1 0 = inp at *
            have hm1 : IntKind.i64.wrap ((m1 : Int) + 1) = ((m1 + 1 : Nat) : Int) := by rw [IntWalk.i64_in _ (by omega)]; omega
            have n0 : (0 : Int) ≤ (m1 : Int) := by omega
            clear HX6 hvat mm
            go_wp2_with fail
            refine pV.out.mono ?_
            rintro ee w7 ⟨⟨z, z', rfl⟩, s', x', h7⟩
            have m0' := h7.cam.cell 1
            simp only [List.getElem?_toArray, List.getElem?_cons_zero, List.getElem?_cons_succ] at m0'
            have mf := h7.cam.frozen 1
            have H8 := Lib.hid (h7.came1 (m1 + 1))
            clear h7 pV
            go_wp2_with fail
            go_roundw
            case rel => exact ⟨i + 1, sa, s', xa, x', _, _, S0, S1, m0, m1 + 1, by omega, by go_num, H8.out⟩
            case measure => simp [intOf]; omega
          · have hlt' : ¬ (m1 : Int) < (S0.length : Int) := by omega
            have H8 := Lib.hid HX6.out.up
            clear HX6 hvat mm
            go_wp2_with fail
            go_roundw
            case rel => exact ⟨i + 1, sa, sb, xa, xb, _, _, S0, S1, m0, m1, by omega, by go_num, H8.out⟩
            case measure => simp [intOf]; omega
        have H8 := Lib.hid HX6.out.up
        clear HX6
        go_wp2_with fail
        go_roundw
        case rel => exact ⟨i + 1, sa, sb, xa, xb, _, _, S0, S1, m0, m1, by omega, by go_num, H8.out⟩
        case measure => simp [intOf]; omega
      · obtain rfl : i = 100 := by omega
        rw [show ((100 : Nat) : Int) = 100 from rfl] at c1' c1'' ⊢
        clear hX
        go_wp2_with fail
        (try simp only [Bool.or_false, Bool.and_true, Bool.or_self, Bool.and_self, Bool.true_and, Bool.false_or])
        obtain ⟨i0, hi0⟩ : ∃ i0 : Nat, i0 = 100 := ⟨_, rfl⟩
        rw [← hi0] at HX
        clear hi0
        go_loopw [13] (fun nv wq => ∃ n : Nat, n ≤ 200 ∧ nv = .int .i64 (n : Int) ∧ LT w wq cf ga gb d e0 sa sb xa xb v0 v1 S0 S1 S0 S1 m0 m1 m0 m1 i0) (fun nv _ => 1000 - (intOf nv).toNat)
        case atStart => exact ⟨0, by omega, rfl, HX.out⟩
        case round =>
          clear HX
          obtain ⟨n, hn, rfl, hY⟩ := hrel
          have HY := Lib.hid hY
          obtain ⟨q1, q2⟩ := hY.sure
          have Q1 := Lib.hid q1
          have Q2 := Lib.hid q2
          have hsa := (sureH_le xa).1
          have hua := hY.ja.un
          obtain ⟨mn, hmn⟩ : ∃ mn, (if sureH xb < sureH xa then sureH xb else sureH xa) = mn := ⟨_, rfl⟩
          have hmn2 : mn ≤ sureH xa ∧ mn ≤ sureH xb := by rw [← hmn]; split <;> omega
          by_cases hnm : (n : Int) ≤ mn
          · obtain ⟨x, y, p, q, hp, hq, hxy, s1, s2⟩ := hY.sums n (by omega) (by omega)
            have HS1 := Lib.hid s1
            have HS2 := Lib.hid s2
            have hn1 : n + 1 ≤ 200 := by omega
            have HXY := Lib.hid hxy
            generalize sureH xa = su1 at *
            generalize sureH xb = su2 at *
            clear q1 q2 s1 s2 hY hxy
            go_wp2_with fail
            refine (Q1.out 0).mono ?_
            rintro e w7 ⟨rfl, n1, rfl⟩
            go_wp2_with fail
            refine (Q2.out _).mono ?_
            rintro e w7 ⟨rfl, n2, rfl⟩
            go_wp2_with fail
            refine (HS1.out _ (below_drewN (Below.refl _ _) _)).mono ?_
            rintro e w8 ⟨rfl, b8⟩
            have hb8 := (below_drewN (Below.refl _ wr) (n1 + n2)).trans (b8.mono (Nat.le_refl _))
            go_wp2_with fail
            refine (HS2.out _ hb8).mono ?_
            rintro e w9 ⟨rfl, b9⟩
            have HFIN := Lib.hid (HY.out.below (hb8.trans (b9.mono hb8.size)))
            clear HS1 HS2 Q1 Q2 HY b8 b9 hb8 hmn hmn2 hnm
            rcases hp with rfl | rfl
            · rcases hq with rfl | rfl
              · have hxe := HXY.out rfl rfl
                subst hxe
                go_wp2_with fail
                go_roundw
                case rel => exact ⟨n + 1, hn1, by go_num, HFIN.out⟩
                case measure => simp [intOf]; omega
              · go_wp2_with fail
                go_roundw
                case rel => exact ⟨n + 1, hn1, by go_num, HFIN.out⟩
                case measure => simp [intOf]; omega
            · rcases hq with rfl | rfl
              · go_wp2_with fail
                go_roundw
                case rel => exact ⟨n + 1, hn1, by go_num, HFIN.out⟩
                case measure => simp [intOf]; omega
              · go_wp2_with fail
                go_roundw
                case rel => exact ⟨n + 1, hn1, by go_num, HFIN.out⟩
                case measure => simp [intOf]; omega
          · have HLO := Lib.hid hY.lo
            generalize sureH xa = su1 at *
            generalize sureH xb = su2 at *
            clear q1 q2 hY HY hsa hua hmn2
            go_wp2_with fail
            refine (Q1.out 0).mono ?_
            rintro e w7 ⟨rfl, n1, rfl⟩
            go_wp2_with fail
            refine (Q2.out _).mono ?_
            rintro e w7 ⟨rfl, n2, rfl⟩
            go_wp2_with fail
            go_ret
            exact ⟨rfl, below_drewN HLO.out _⟩
    · obtain ⟨c1', c1''⟩ : ¬ (i : Int) < (l : Int) ∧ decide ((i : Int) < (l : Int)) = false := ⟨by omega, by simp; omega⟩
      clear hX
      go_wp2_with fail
      (try simp only [Bool.or_false, Bool.and_true, Bool.or_self, Bool.and_self, Bool.true_and, Bool.false_or])
      obtain ⟨i0, hi0⟩ : ∃ i0 : Nat, i0 = i := ⟨_, rfl⟩
      rw [← hi0] at HX
      clear hi0
      go_loopw [13] (fun nv wq => ∃ n : Nat, n ≤ 200 ∧ nv = .int .i64 (n : Int) ∧ LT w wq cf ga gb d e0 sa sb xa xb v0 v1 S0 S1 S0 S1 m0 m1 m0 m1 i0) (fun nv _ => 1000 - (intOf nv).toNat)
      case atStart => exact ⟨0, by omega, rfl, HX.out⟩
      case round =>
        clear HX
        obtain ⟨n, hn, rfl, hY⟩ := hrel
        have HY := Lib.hid hY
        obtain ⟨q1, q2⟩ := hY.sure
        have Q1 := Lib.hid q1
        have Q2 := Lib.hid q2
        have hsa := (sureH_le xa).1
        have hua := hY.ja.un
        obtain ⟨mn, hmn⟩ : ∃ mn, (if sureH xb < sureH xa then sureH xb else sureH xa) = mn := ⟨_, rfl⟩
        have hmn2 : mn ≤ sureH xa ∧ mn ≤ sureH xb := by rw [← hmn]; split <;> omega
        by_cases hnm : (n : Int) ≤ mn
        · obtain ⟨x, y, p, q, hp, hq, hxy, s1, s2⟩ := hY.sums n (by omega) (by omega)
          have HS1 := Lib.hid s1
          have HS2 := Lib.hid s2
          have hn1 : n + 1 ≤ 200 := by omega
          have HXY := Lib.hid hxy
          generalize sureH xa = su1 at *
          generalize sureH xb = su2 at *
          clear q1 q2 s1 s2 hY hxy
          go_wp2_with fail
          refine (Q1.out 0).mono ?_
          rintro e w7 ⟨rfl, n1, rfl⟩
          go_wp2_with fail
          refine (Q2.out _).mono ?_
          rintro e w7 ⟨rfl, n2, rfl⟩
          go_wp2_with fail
          refine (HS1.out _ (below_drewN (Below.refl _ _) _)).mono ?_
          rintro e w8 ⟨rfl, b8⟩
          have hb8 := (below_drewN (Below.refl _ wr) (n1 + n2)).trans (b8.mono (Nat.le_refl _))
          go_wp2_with fail
          refine (HS2.out _ hb8).mono ?_
          rintro e w9 ⟨rfl, b9⟩
          have HFIN := Lib.hid (HY.out.below (hb8.trans (b9.mono hb8.size)))
          clear HS1 HS2 Q1 Q2 HY b8 b9 hb8 hmn hmn2 hnm
          rcases hp with rfl | rfl
          · rcases hq with rfl | rfl
            · have hxe := HXY.out rfl rfl
              subst hxe
              go_wp2_with fail
              go_roundw
              case rel => exact ⟨n + 1, hn1, by go_num, HFIN.out⟩
              case measure => simp [intOf]; omega
            · go_wp2_with fail
              go_roundw
              case rel => exact ⟨n + 1, hn1, by go_num, HFIN.out⟩
              case measure => simp [intOf]; omega
          · rcases hq with rfl | rfl
            · go_wp2_with fail
              go_roundw
              case rel => exact ⟨n + 1, hn1, by go_num, HFIN.out⟩
              case measure => simp [intOf]; omega
            · go_wp2_with fail
              go_roundw
              case rel => exact ⟨n + 1, hn1, by go_num, HFIN.out⟩
              case measure => simp [intOf]; omega
        · have HLO := Lib.hid hY.lo
          generalize sureH xa = su1 at *
          generalize sureH xb = su2 at *
          clear q1 q2 hY HY hsa hua hmn2
          go_wp2_with fail
          refine (Q1.out 0).mono ?_
          rintro e w7 ⟨rfl, n1, rfl⟩
          go_wp2_with fail
          refine (Q2.out _).mono ?_
          rintro e w7 ⟨rfl, n2, rfl⟩
          go_wp2_with fail
          go_ret
          exact ⟨rfl, below_drewN HLO.out _⟩
end
end Go.Proofs.Ytckkpgopddnkiaa.Rl
namespace Go.Proofs.Ytckkpgopddnkiaa.Rl
open Go.RowKit Go.WideShapes Go.ChangeShapes Go.ChangeAt Go.Deep Go.Proofs.Ytckkpgopddnkiaa.Eql Go.Proofs.Ytckkpgopddnkiaa.Gm
set_option linter.all false

theorem keyRo : Try.prog.keyTypeAt 4 64 = true := by kernel_rfl
theorem tiledRo : Try.prog.tiled 4 64 = true := by kernel_rfl
theorem litsRo : Try.prog.keyLits 4 64 [.int .i64 0, .int .u16 0, .int .i64 0] = some [.int .i64 0, .int .u16 0, .int .i64 0] := by kernel_rfl
theorem keyCf : Try.prog.keyTypeAt 4 58 = true := by kernel_rfl
theorem tiledCf : Try.prog.tiled 4 58 = true := by kernel_rfl
theorem litsCf : Try.prog.keyLits 4 58 [.int .u32 0, .int .i64 0, .int .i64 0, .int .i64 0] = some [.int .u32 0, .int .i64 0, .int .i64 0, .int .i64 0] := by kernel_rfl
theorem int_likeRo {x : Lit} {k : IntKind} {n : Int} (h : x.sameKind (.int k n)) : ∃ m, x = .int k m := by
  cases x <;> simp [Lit.sameKind] at h
  subst h
  exact ⟨_, rfl⟩
theorem ro_of_lits {cs : List Value} {l : List Lit} (hk : Try.prog.keyLits 4 64 cs = some l) :
    ∃ o : Int × Nat × Int, cs = [.int .i64 o.1, .int .u16 (o.2.1 : Int), .int .i64 o.2.2] ∧ o.2.1 < 65536 ∧ (-9223372036854775808 ≤ o.1 ∧ o.1 ≤ 9223372036854775807) ∧ (-9223372036854775808 ≤ o.2.2 ∧ o.2.2 ≤ 9223372036854775807) := by
  have e := cells_of_lits 4 _ tiledRo _ _ _ hk
  have hal := keyLits_alike hk litsRo
  have w := keyLits_wf hk
  match l, hal, e, w with
  | [x0, x1, x2], ⟨h0, h1, h2, _⟩, e, w =>
    obtain ⟨a0, rfl⟩ := int_likeRo h0
    obtain ⟨a1, rfl⟩ := int_likeRo h1
    obtain ⟨a2, rfl⟩ := int_likeRo h2
    have b1 := I2.bounds_u16 (w (.int .u16 a1) (by simp))
    obtain ⟨m1, rfl⟩ : ∃ m1 : Nat, a1 = m1 := ⟨a1.toNat, by omega⟩
    exact ⟨(a0, m1, a2), e, show m1 < 65536 by omega, bounds_i64 (w (.int .i64 a0) (by simp)), bounds_i64 (w (.int .i64 a2) (by simp))⟩
theorem cf_of_lits {cs : List Value} {l : List Lit} (hk : Try.prog.keyLits 4 58 cs = some l) :
    ∃ sd : Nat, ∃ lo de ah : Int, cs = [.int .u32 (sd : Int), .int .i64 lo, .int .i64 de, .int .i64 ah] ∧ sd < 4294967296 ∧ (-9223372036854775808 ≤ lo ∧ lo ≤ 9223372036854775807) ∧ (-9223372036854775808 ≤ de ∧ de ≤ 9223372036854775807) ∧ (-9223372036854775808 ≤ ah ∧ ah ≤ 9223372036854775807) := by
  have e := cells_of_lits 4 _ tiledCf _ _ _ hk
  have hal := keyLits_alike hk litsCf
  have w := keyLits_wf hk
  match l, hal, e, w with
  | [x0, x1, x2, x3], ⟨h0, h1, h2, h3, _⟩, e, w =>
    obtain ⟨a0, rfl⟩ := int_likeRo h0
    obtain ⟨a1, rfl⟩ := int_likeRo h1
    obtain ⟨a2, rfl⟩ := int_likeRo h2
    obtain ⟨a3, rfl⟩ := int_likeRo h3
    have b0 := I2.bounds_u32 (w (.int .u32 a0) (by simp))
    obtain ⟨m0, rfl⟩ : ∃ m0 : Nat, a0 = m0 := ⟨a0.toNat, by omega⟩
    exact ⟨m0, a1, a2, a3, e, by omega, bounds_i64 (w (.int .i64 a1) (by simp)), bounds_i64 (w (.int .i64 a2) (by simp)), bounds_i64 (w (.int .i64 a3) (by simp))⟩
theorem open_cfg {H : Type} {enc : TypeId × Value → H} {W : World} {base : Nat} {spare : Nat → Bool} {held : Bool} {r : Reach} {b0 : Nat} {v : Value} {d : DataW H} {p : List MemPlace}
    (hv : Value.okWide Try.prog W r b0 58 v) (h : DataW.Trod enc Try.prog W base spare held 58 v d p) :
    ∃ sd : Nat, ∃ lo de ah : Int, v = .agg #[.int .u32 (sd : Int), .int .i64 lo, .int .i64 de, .int .i64 ah] ∧ sd < 4294967296 ∧ (-9223372036854775808 ≤ lo ∧ lo ≤ 9223372036854775807) ∧ (-9223372036854775808 ≤ de ∧ de ≤ 9223372036854775807) ∧ (-9223372036854775808 ≤ ah ∧ ah ≤ 9223372036854775807) := by
  obtain ⟨fuel, hf⟩ := h
  obtain ⟨hk, _⟩ := keyLits_of_trod 4 _ keyCf _ _ _ hf
  obtain ⟨sd, lo, de, ah, e, h0⟩ := cf_of_lits hk
  have hu := Try.underlying58
  simp only [Value.okWide, hu] at hv
  obtain ⟨cs, rfl, _, _⟩ := hv
  refine ⟨sd, lo, de, ah, ?_, h0⟩
  have e2 : cs.toList = [.int .u32 (sd : Int), .int .i64 lo, .int .i64 de, .int .i64 ah] := e
  exact congrArg Value.agg (Array.ext' e2)
set_option maxRecDepth 100000 in
theorem open_rops {H : Type} {enc : TypeId × Value → H} {W : World} {base : Nat} {spare : Nat → Bool} {held : Bool} {t : TypeId} {r : Reach} {b0 : Nat} {v : Value} {d : DataW H} {p : List MemPlace}
    (ht : Try.prog.underlying t = some (.slice 64)) (hv : Value.okWide Try.prog W r b0 t v) (h : DataW.Trod enc Try.prog W base spare held t v d p) :
    ∃ a cap, ∃ ops : List (Int × Nat × Int), v = .slice a ops.length cap ∧ ROps W a ops ∧ ops.length ≤ cap ∧ cap ≤ maxLen := by
  have hc3 : Try.prog.cellsOf 64 = 3 := by kernel_rfl
  obtain ⟨a0, len0, cap0, rfl⟩ := okWide_slice ht hv
  obtain ⟨fuel, hf⟩ := h
  rcases open_slice ht hf with ⟨hcs, _⟩ | ⟨a, len, cap, m, n, D, Pl, hcs, hb, hl, hm, hmm, _, hi⟩
  · simp [Value.cells] at hcs
    obtain ⟨rfl, rfl, rfl⟩ := hcs
    exact ⟨none, 0, [], rfl, ⟨fun x hx => by simp at hx, fun h => by simp at h⟩, by simp, by simp [maxLen]⟩
  · simp [Value.cells] at hcs
    obtain ⟨rfl, rfl, rfl⟩ := hcs
    have hlm : len0 ≤ m := by rw [hmm]; split <;> omega
    have each : ∀ i, i < len0 → ∃ o : Int × Nat × Int, (W.cell? (a.add (i * 3 + 0)) = some (.int .i64 o.1) ∧ W.cell? (a.add (i * 3 + 1)) = some (.int .u16 (o.2.1 : Int)) ∧ W.cell? (a.add (i * 3 + 2)) = some (.int .i64 o.2.2)) ∧
        (o.2.1 < 65536 ∧ (-9223372036854775808 ≤ o.1 ∧ o.1 ≤ 9223372036854775807) ∧ (-9223372036854775808 ≤ o.2.2 ∧ o.2.2 ≤ 9223372036854775807)) := by
      intro i hil
      obtain ⟨cs', hcc, ht'⟩ := hi i (by omega)
      rw [hc3] at hcc
      obtain ⟨hk, _⟩ := keyLits_of_trod 4 _ keyRo _ _ _ ht'
      obtain ⟨o, e, hw⟩ := ro_of_lits hk
      obtain ⟨_, hcl2, hat⟩ := World.cells?_some hcc
      have g : ∀ k, k < 3 → W.cell? (a.add (i * 3 + k)) = ([.int .i64 o.1, .int .u16 (o.2.1 : Int), .int .i64 o.2.2] : List Value)[k]? := fun k hk => by
        have g := hat k hk
        rw [← Go.Deep.add_add, g, e]
      exact ⟨o, ⟨g 0 (by omega), g 1 (by omega), g 2 (by omega)⟩, hw⟩
    obtain ⟨ops, hol, hops⟩ := I2.list_of len0 each
    subst hol
    refine ⟨some a, cap0, ops, rfl, ⟨fun x hx => ?_, fun hp => ?_⟩, hl, hm⟩
    · obtain ⟨i, hi⟩ := List.getElem?_of_mem hx
      exact (hops i x hi).2
    · obtain ⟨b, off, spot⟩ := a
      obtain ⟨x, hx⟩ : ∃ x, ops[0]? = some x := ⟨ops[0]'(by omega), by simp⟩
      have c0 := (hops 0 x hx).1.1
      have hspot : spot = none := by simpa [Addr.add] using World.cell?_spot c0
      subst hspot
      have hadd : ∀ j, (⟨b, off, none⟩ : Addr).add j = ⟨b, off + j, none⟩ := fun j => by unfold Addr.add; split <;> simp_all
      refine ⟨b, off, rfl, ?_, fun j y hy => ?_⟩
      · have := World.block_lt_of_cell? W _ c0
        rw [hadd] at this
        exact this
      · have := (hops j y hy).1
        simp only [hadd, ← Nat.add_assoc, Nat.add_zero] at this
        exact ⟨this.1, this.2.1, this.2.2⟩
end Go.Proofs.Ytckkpgopddnkiaa.Rl
namespace Go.Proofs.Ytckkpgopddnkiaa.Rl
open Go.RowKit Go.Sort Go.Proofs.Ytckkpgopddnkiaa.Gm Go.Proofs.Ytckkpgopddnkiaa.RingE Go.Proofs.Ytckkpgopddnkiaa.Inputq
set_option linter.all false
theorem two_law (w : World) (sd : Nat) (lo de ah : Int) (hsd : sd < 4294967296) (a : Option Addr) (c : Nat) (ops : List (Int × Nat × Int)) (hops : ROps w a ops) (hl : ops.length ≤ c) (hc : c ≤ maxLen) :
    Calls Try.prog 6 #[.agg #[.int .u32 (sd : Int), .int .i64 lo, .int .i64 de, .int .i64 ah], .slice a ops.length c] w fun e w' => e = .returned (.bool true) ∧ Below w.heap.size w w' := by
  cases h : rightB lo de ah with
  | false => exact two_out w sd lo de ah _ h
  | true =>
    unfold rightB at h
    simp only [decide_eq_true_eq] at h
    obtain ⟨l, rfl⟩ : ∃ l : Nat, lo = l := ⟨lo.toNat, by omega⟩
    exact two_in w sd l de ah hsd (by omega) ⟨h.2.2.2.2.1, h.2.2.2.2.2⟩ ⟨h.2.2.1, h.2.2.2.1⟩ a c ops hops (by simp only [maxLen] at hc; omega)
end Go.Proofs.Ytckkpgopddnkiaa.Rl
