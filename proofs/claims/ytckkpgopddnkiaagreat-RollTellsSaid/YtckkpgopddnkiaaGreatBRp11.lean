/-
  Texts joined: RlD, RlP, RlQ, RlR, SavCN. No condition.
-/
import Derived.Test.YtckkpgopddnkiaaGreatBRp10
namespace Go.Proofs.YtckkpgopddnkiaaGreat.Rl
open Go.RowKit Go.Sort Go.Proofs.YtckkpgopddnkiaaGreat.Gm Go.Proofs.YtckkpgopddnkiaaGreat.RingE Go.Proofs.YtckkpgopddnkiaaGreat.Inputq
set_option linter.all false
attribute [local go_sem] idx0 idx1

/-- A block of another kind is none of the engine's. -/
theorem EAt.other {w : World} {c : Cfg} {s : SE} {p : P} {C : Array Value} (h : EAt w c s p C) {k : Nat} {t : TypeId} {cs : Array Value} (hb : Blk w k t cs)
    (ht : t ≠ 78 ∧ t ≠ 107 ∧ t ≠ 125 ∧ t ≠ 31 ∧ t ≠ 102 ∧ t ≠ 123 ∧ t ≠ 98) : ¬ fpE s k := by
  obtain ⟨t1, t2, t3, t4, t5, t6, t7⟩ := ht
  have e : w.heap[k]? = some (.cells cs t (0, 0)) := hb
  rintro (rfl | (a | a) | a)
  · exact Blk.ne_ hb h.blk t1 rfl
  · obtain ⟨cs', t', e', ht'⟩ := q_kind (h.qa 0 (by omega)) a
    rw [e] at e'
    simp only [Option.some.injEq, Obj.cells.injEq] at e'
    obtain ⟨-, rfl, -⟩ := e'
    rcases ht' with h | h | h
    · exact t2 h
    · exact t3 h
    · exact t4 h
  · obtain ⟨cs', t', e', ht'⟩ := q_kind (h.qa 1 (by omega)) a
    rw [e] at e'
    simp only [Option.some.injEq, Obj.cells.injEq] at e'
    obtain ⟨-, rfl, -⟩ := e'
    rcases ht' with h | h | h
    · exact t2 h
    · exact t3 h
    · exact t4 h
  · obtain ⟨cs', t', e', ht'⟩ := s_kind h.sa a
    rw [e] at e'
    simp only [Option.some.injEq, Obj.cells.injEq] at e'
    obtain ⟨-, rfl, -⟩ := e'
    rcases ht' with h | h | h
    · exact t5 h
    · exact t6 h
    · exact t7 h

/-- Behind the first i queues' Use. -/
def usedN (p : P) : Nat → P
  | 0 => p
  | i + 1 => { usedN p i with qs := upd (usedN p i).qs i (useQ (p.qs i) (p.f 0)) }
theorem usedN_f (p : P) : ∀ i, (usedN p i).f = p.f
  | 0 => rfl
  | i + 1 => usedN_f p i
theorem usedN_ge (p : P) : ∀ i j, i ≤ j → (usedN p i).qs j = p.qs j
  | 0, _, _ => rfl
  | i + 1, j, h => by
    show upd (usedN p i).qs i _ j = _
    rw [upd_ne _ _ (by omega)]
    exact usedN_ge p i j (by omega)
def inN (p : P) : Nat → Nat := fun i => if i = 0 then (useV (p.qs 0) (p.f 0)).toNat else (useV (p.qs 1) (p.f 0)).toNat
def nextF (p : P) : F := stepF p.f (inN p)
def stepP (p : P) : P := { usedN p 2 with f := nextF p, b := Sav.saveF 64 p.b p.l (nextF p), l := Sav.saveL 64 p.b p.l (nextF p) }
def arrN (p : P) (i : Nat) : Array Value := #[.int .u16 (if 0 < i then useV (p.qs 0) (p.f 0) else 0), .int .u16 (if 1 < i then useV (p.qs 1) (p.f 0) else 0)]

/-- Behind i rounds of the loop. -/
structure StR (w wr : World) (c : Cfg) (s : SE) (p : P) (C : Array Value) (i : Nat) : Prop where
  ea : ∃ s', s'.g = s.g ∧ s'.sb = s.sb ∧ (∀ j, (s'.ss j).q = (s.ss j).q) ∧ EAt wr c s' (usedN p i) C ∧ Touch (fpE s) w wr ∧ ∀ k, fpE s' k → fpE s k ∨ w.heap.size ≤ k
  arr : Blk wr w.heap.size 32 (arrN p i)
section
variable {w wr W : World} {c : Cfg} {s : SE} {p : P} {C : Array Value} {i : Nat}
theorem StR.start (h : EAt w c s p C) : StR w (w.alloc (.cells #[.int .u16 0, .int .u16 0] 32)) c s p C 0 :=
  ⟨⟨s, rfl, rfl, fun _ => rfl, h.alloc _, (Touch.refl _ w).alloc _, fun _ hk => .inl hk⟩, Blk.new _ _ _⟩
/-- What a round needs, and what it leaves. -/
theorem StR.use (h : StR w wr c s p C i) (hi : i < 2) (ok : Ok (p.qs i)) (hf : p.f 0 ≤ 1000000) (he : useE (p.qs i) (p.f 0) = 0) :
    wr.cell? ⟨s.g, 7, none⟩ = some (.int .i64 (p.f 0)) ∧
    Calls Tryz.prog 68 #[.pointer (some ⟨(s.ss i).q, 0, none⟩), .int .i64 (p.f 0)] wr fun e w' => e = .returned (.tuple #[.int .u16 (useV (p.qs i) (p.f 0)), .bool (useK (p.qs i) (p.f 0)), .int .i64 0]) ∧
      Blk w' w.heap.size 32 (arrN p i) ∧ StR w (w'.setCell ⟨w.heap.size, i, none⟩ (.int .u16 (useV (p.qs i) (p.f 0)))) c s p C (i + 1) := by
  obtain ⟨⟨s', e1, e2, e3, hE, hT, hF⟩, hA⟩ := h
  have c7 := hE.c7
  rw [e1, usedN_f] at c7
  refine ⟨c7, ?_⟩
  have hq := hE.qa i hi
  rw [usedN_ge p i i (Nat.le_refl _)] at hq
  have hc := use_any wr (s'.ss i) (p.qs i) (p.f 0) hq ok (by omega)
  rw [e3 i, he] at hc
  refine hc.mono fun e w' ⟨h1, ht⟩ => ⟨h1, ?_⟩
  have hoth := hE.other hA (by decide)
  obtain ⟨s2, f1, f2, f3, hE2, T2, F2⟩ := hE.queue hi ht
  have hA2 := hA.touch T2 hoth
  refine ⟨hA2, ⟨⟨s2, f1.trans e1, f2.trans e2, fun j => (f3 j).trans (e3 j), ?_, ?_, ?_⟩, ?_⟩⟩
  · have hn2 := hE2.other hA2 (by decide)
    refine EAt.touch (S := fun k => k = w.heap.size) hE2 (touch_g _ _ _ _) (fun k hk e => hn2 (e ▸ hk))
  · refine Touch.setCell (hT.trans T2 hF) (.inr (Nat.le_refl _)) _
  · intro k hk
    rcases F2 k hk with a | a
    · exact hF k a
    · exact .inr (Nat.le_trans hT.size a)
  · have := hA2.set_ i (.int .u16 (useV (p.qs i) (p.f 0)))
    obtain rfl | rfl : i = 0 ∨ i = 1 := by omega
    · exact this
    · exact this
end

theorem loadE33 (w : World) (g o : Nat) : loadR Tryz.prog 47 (.pointer (some ⟨g, o, none⟩)) w = loadI w (loadR0 Tryz.prog 47 (.pointer (some ⟨g, o, none⟩)) w) (rowIn w g o 66) :=
  loadR_mid w g o _ Tryz.underlying47 rfl infoSt

/-- What the two last regions need. -/
structure StE (w V : World) (c : Cfg) (s : SE) (p : P) (L D : List Value) : Prop where
  row : rowIn V s.g 7 66 = some L
  step : ∀ W, Calls Tryz.prog 69 #[.agg L.toArray, .agg #[.int .u16 (useV (p.qs 0) (p.f 0)), .int .u16 (useV (p.qs 1) (p.f 0))]] W fun e w' => e = .returned (.agg D.toArray) ∧ Below W.heap.size W w'
  store : ∀ W, Below V.heap.size V W → ∃ W', storeR Tryz.prog 47 (.pointer (some ⟨s.g, 7, none⟩)) (.agg D.toArray) W = .ok .skip W' ∧
    W'.cell? ⟨s.g, 6, none⟩ = some (.pointer (some ⟨s.sb, 0, none⟩)) ∧ rowIn W' s.g 7 66 = some D ∧
    (∀ n, Calls Tryz.prog 33 #[.pointer (some ⟨s.sb, 0, none⟩), .agg D.toArray] (W'.drewN n) fun e w' => e = .returned (.int .i64 (Sav.saveE p.b p.l (nextF p 0))) ∧ TurnedE w c s (stepP p) w')
  c0 : V.cell? ⟨w.heap.size, 0, none⟩ = some (.int .u16 (useV (p.qs 0) (p.f 0)))
  c1 : V.cell? ⟨w.heap.size, 1, none⟩ = some (.int .u16 (useV (p.qs 1) (p.f 0)))

theorem StR.ends {w V : World} {c : Cfg} {s : SE} {p : P} {C : Array Value} {fr sc : Int} (h : StR w V c s p C 2) (ok : OkE c p) (hI : Inv fr sc p.f) (hfr0 : 0 ≤ fr) (hfr : fr ≤ 1000000) (hsc : sc ≤ 100000000)
    (hv : ∀ i, i < 2 → 0 ≤ useV (p.qs i) (p.f 0) ∧ useV (p.qs i) (p.f 0) < 65536) : ∃ L D, StE w V c s p L D := by
  obtain ⟨⟨s', e1, e2, e3, hE, hT, hF⟩, hA⟩ := h
  obtain ⟨D, LD⟩ := let_of (nextF p)
  have hf : (usedN p 2).f = p.f := usedN_f p 2
  have hst := hE.st
  rw [hf] at hst
  have v0 := hv 0 (by omega)
  have v1 := hv 1 (by omega)
  refine ⟨C.toList, D.toList, ⟨?_, ?_, ?_, hA.cell 0, hA.cell 1⟩⟩
  · rw [← e1]
    exact rowIn_of hE.mid (by have := hE.st.size; simpa using this)
  · intro W
    have hs := step_any W p.f fr sc (inN p) (fun j hj => by
      have e : j = 0 ∨ j = 1 := by omega
      rcases e with rfl | rfl
      · show (useV (p.qs 0) (p.f 0)).toNat < 65536; omega
      · show (useV (p.qs 1) (p.f 0)).toNat < 65536; omega) hI (by omega) (by omega) hfr0
    unfold stV inV at hs
    rw [← hst.eq] at hs
    have n0 : ((inN p 0 : Nat) : Int) = useV (p.qs 0) (p.f 0) := by show (((useV (p.qs 0) (p.f 0)).toNat : Nat) : Int) = _; omega
    have n1 : ((inN p 1 : Nat) : Int) = useV (p.qs 1) (p.f 0) := by show (((useV (p.qs 1) (p.f 0)).toNat : Nat) : Int) = _; omega
    rw [n0, n1, show stepF p.f (inN p) = nextF p from rfl, ← LD.eq] at hs
    exact hs
  · intro W hb
    have hEW := hE.below hb
    have ht2 : W.there s'.g 7 D.size := by rw [LD.size]; exact hEW.there
    obtain ⟨hE2, hT2⟩ := hEW.stored LD
    rw [e1] at ht2 hT2
    refine ⟨W.setCells s.g 7 D.toList, storeR_mid ht2 LD.info LD.one rfl, ?_, ?_, fun n => ?_⟩
    · have := hE2.c6
      rw [e1, e2] at this
      exact this
    · have := hE2.mid
      rw [e1] at this
      exact rowIn_of this (by have := LD.size; simpa using this)
    · rw [e1] at hE2
      have hE3 := hE2.drewN n
      have hIn := hI.step (inN p)
      have hwf : Wf (nextF p) := hIn.wf (by omega) (by omega) (by omega)
      have hsa := hE3.sa
      rw [e2] at hsa
      have hs := Sav.save_any ((W.setCells s.g 7 D.toList).drewN n) s.sb s'.r 64 p.b s'.sv p.l D (nextF p) LD hwf hsa ok.b0 (by have := ok.bl; omega) (by have := ok.ll; omega) (by omega)
      refine hs.mono fun e w' ⟨h1, ht⟩ => ⟨h1, ?_⟩
      rw [← e2] at ht
      obtain ⟨s2, f1, f2, f3, hE4, T4, F4⟩ := hE3.saved ht
      have T0 : Touch (fpE s) w (W.setCells s.g 7 D.toList) := by
        refine (hT.trans (Touch.of_below (S := fpE s) hb) (fun k hk => .inl hk)).trans hT2 (fun k hk => .inl (.inl hk))
      refine ⟨s2, D, ⟨f1.trans e1, f2.trans e2, fun j => by rw [f3]; exact e3 j⟩, hE4, (T0.drewN n).trans T4 hF, fun k hk => ?_⟩
      rcases F4 k hk with a | a
      · exact hF k a
      · exact .inr (Nat.le_trans T0.size a)

section
attribute [local go_sem ↓] exec33 exec_st33
attribute [local go_sem] loadE33 loadI_some rowIn_drew
set_option maxRecDepth 100000 in
set_option maxHeartbeats 8000000 in
theorem step_any (w : World) (c : Cfg) (s : SE) (p : P) (C : Array Value) (fr sc : Int) (h : EAt w c s p C) (ok : OkE c p) (hI : Inv fr sc p.f) (hfr0 : 0 ≤ fr) (hfr : fr ≤ 1000000) (hsc : sc ≤ 100000000)
    (hu : ∀ i, i < 2 → useE (p.qs i) (p.f 0) = 0) (hv : ∀ i, i < 2 → 0 ≤ useV (p.qs i) (p.f 0) ∧ useV (p.qs i) (p.f 0) < 65536) :
    Calls Tryz.prog 38 #[.pointer (some ⟨s.g, 0, none⟩)] w fun e w' => e = .returned (.int .i64 (Sav.saveE p.b p.l (nextF p 0))) ∧ TurnedE w c s (stepP p) w' := by
  have hs0 := StR.start h
  have h4 := hs0.ea
  have h5 : (w.alloc (.cells #[.int .u16 0, .int .u16 0] 32)).cell? ⟨s.g, 4, none⟩ = some (.pointer (some ⟨(s.ss 0).q, 0, none⟩)) := (h.alloc _).c4
  have h6 : (w.alloc (.cells #[.int .u16 0, .int .u16 0] 32)).cell? ⟨s.g, 5, none⟩ = some (.pointer (some ⟨(s.ss 1).q, 0, none⟩)) := (h.alloc _).c5
  have HU := Lib.hid (fun wr i (hr : StR w wr c s p C i) (hi : i < 2) => hr.use hi (ok.q i hi) ok.f1 (hu i hi))
  have HE := Lib.hid (fun wr (hr : StR w wr c s p C 2) => hr.ends ok hI hfr0 hfr hsc hv)
  have HS := Lib.hid hs0
  clear h4 hs0 h ok hI hfr0 hfr hsc hu hv
  go_enter Tryz.func38, Tryz.ntmps38
  go_wp2_with fail
  go_loopw [13] (fun iv wr => ∃ i : Nat, i ≤ 2 ∧ iv = .int .i64 (i : Int) ∧ StR w wr c s p C i) (fun iv _ => 2 - (intOf iv).toNat)
  case atStart => exact ⟨0, by omega, rfl, HS.out⟩
  case round =>
    clear HS h5 h6
    obtain ⟨i, hi, rfl, hR⟩ := hrel
    obtain rfl | rfl | rfl : i = 0 ∨ i = 1 ∨ i = 2 := by omega
    · rw [show ((0 : Nat) : Int) = 0 from rfl]
      obtain ⟨c7, pU⟩ := HU.out wr 0 hR (by omega)
      have PU := Lib.hid pU
      clear pU hR
      go_wp2_with fail
      refine PU.out.mono ?_
      rintro e w2 ⟨rfl, hA, hR2⟩
      have a0 := hA.cell 0
      have f0 := hA.frozen 0
      have HR2 := Lib.hid hR2
      clear hA hR2
      go_wp2_with fail
      go_roundw
      case rel => exact ⟨1, by omega, rfl, HR2.out⟩
      case measure => simp [intOf]
    · rw [show ((1 : Nat) : Int) = 1 from rfl]
      obtain ⟨c7, pU⟩ := HU.out wr 1 hR (by omega)
      have PU := Lib.hid pU
      clear pU hR
      go_wp2_with fail
      refine PU.out.mono ?_
      rintro e w2 ⟨rfl, hA, hR2⟩
      have a0 := hA.cell 1
      have f0 := hA.frozen 1
      have HR2 := Lib.hid hR2
      clear hA hR2
      go_wp2_with fail
      go_roundw
      case rel => exact ⟨2, by omega, rfl, HR2.out⟩
      case measure => simp [intOf]
    · rw [show ((2 : Nat) : Int) = 2 from rfl]
      obtain ⟨L, D, hrow, pS, st, a0, a1⟩ := HE.out wr hR
      have PS := Lib.hid pS
      have ST := Lib.hid st
      have hrow' : rowIn wr.drew s.g 7 66 = some L := hrow
      clear HU HE hR pS st
      go_upto_region 10 with fail
      go_cut [] (fun wx => wx.cell? ⟨s.g, 6, none⟩ = some (.pointer (some ⟨s.sb, 0, none⟩)) ∧ rowIn wx s.g 7 66 = some D ∧ (∀ n, Calls Tryz.prog 33 #[.pointer (some ⟨s.sb, 0, none⟩), .agg D.toArray] (wx.drewN n) fun e w' => e = .returned (.int .i64 (Sav.saveE p.b p.l (nextF p 0))) ∧ TurnedE w c s (stepP p) w'))
      case first =>
        go_region_law ((go_simp; go_at_call 69; refine (PS.out _).mono ?_; rintro e w3 ⟨rfl, h3⟩; obtain ⟨w4, hst, E4⟩ := ST.out w3 ⟨h3.os, h3.tape, h3.output, h3.size, h3.block⟩))
        all_goals
          go_wp2_with fail
          go_meet
          exact E4
      case rest =>
        obtain ⟨k6, krow, kS⟩ := hcut
        have KS := Lib.hid kS
        have krow' : rowIn wc.drew s.g 7 66 = some D := krow
        have k6' : wc.drew.cell? ⟨s.g, 6, none⟩ = some (.pointer (some ⟨s.sb, 0, none⟩)) := k6
        clear kS hrow hrow' a0 a1 PS ST
        go_upto_region 11 with fail
        go_region_law ((go_simp; go_at_call 33; refine (KS.out 1).mono ?_; rintro e w3 ⟨rfl, h3⟩))
        all_goals
          go_wp2_with fail
          go_ret
          exact ⟨rfl, h3⟩
end
end Go.Proofs.YtckkpgopddnkiaaGreat.Rl
namespace Go.Proofs.YtckkpgopddnkiaaGreat.Rl
open Go.RowKit Go.Sort Go.Proofs.YtckkpgopddnkiaaGreat.Gm Go.Proofs.YtckkpgopddnkiaaGreat.RingE Go.Proofs.YtckkpgopddnkiaaGreat.Inputq
set_option linter.all false

/-- What happened: all known inputs of both, the inputs that were used, the first ones that are wrong. -/
structure H where
  ks : Nat → List Nat
  us : List (Nat × Nat)
  wr : Nat → Int
  low : Nat
  ro : Nat
  re : Nat
  wo : Nat
def toI (l : List Nat) : List Int := l.map (fun n : Nat => (n : Int))
theorem toI_len (l : List Nat) : (toI l).length = l.length := by simp [toI]
theorem toI_get {l : List Nat} {j : Nat} (h : j < l.length) : nth (toI l) j = (l.getD j 0 : Nat) := by
  unfold nth toI
  rw [List.getD_eq_getElem?_getD, List.getD_eq_getElem?_getD, List.getElem?_map, List.getElem?_eq_getElem h]
  rfl
def one (i : Nat) (x : Nat × Nat) : Nat := if i = 0 then x.1 else x.2
def col (i : Nat) (us : List (Nat × Nat)) : List Nat := us.map (one i)
theorem col_len (i : Nat) (us : List (Nat × Nat)) : (col i us).length = us.length := by simp [col]
def qH (c : Cfg) (x : H) (i : Nat) : Q :=
  { delay := c.de, kf := x.low, kl := toI ((x.ks i).drop x.low), last := ((x.ks i).getLastD 0 : Nat), uf := x.low, ul := toI ((col i x.us).drop x.low), wrong := x.wr i }
/-- A player's input in a frame, known or thought. -/
def th (x : H) (i f : Nat) : Nat := if f < (x.ks i).length then (x.ks i).getD f 0 else (x.ks i).getLastD 0
def setAt (us : List (Nat × Nat)) (f : Nat) (v : Nat × Nat) : List (Nat × Nat) := if f = us.length then us ++ [v] else us.set f v
theorem setAt_len {us : List (Nat × Nat)} {f : Nat} {v : Nat × Nat} (h : f ≤ us.length) : (setAt us f v).length = max us.length (f + 1) := by
  unfold setAt; split
  · simp; omega
  · simp; omega
theorem setAt_get {us : List (Nat × Nat)} {f j : Nat} {v : Nat × Nat} (h : f ≤ us.length) : (setAt us f v)[j]? = if j = f then some v else us[j]? := by
  unfold setAt; split
  · rename_i e
    subst e
    by_cases h1 : j = us.length
    · subst h1; simp
    · rw [if_neg h1]
      by_cases h2 : j < us.length
      · rw [List.getElem?_append_left h2]
      · rw [List.getElem?_eq_none (by simp; omega), List.getElem?_eq_none (by omega)]
  · by_cases h1 : j = f
    · subst h1; rw [if_pos rfl, List.getElem?_set_self (by omega)]
    · rw [if_neg h1, List.getElem?_set_ne (by omega)]
def thx (x : H) (f : Nat) : Nat × Nat := (th x 0 f, th x 1 f)
theorem one_thx (x : H) (f : Nat) {i : Nat} (hi : i < 2) : one i (thx x f) = th x i f := by
  obtain rfl | rfl : i = 0 ∨ i = 1 := by omega
  · rfl
  · rfl

section
variable {c : Cfg} {x : H} {i f : Nat}
theorem qH_kl : ((qH c x i).kl.length : Nat) = (x.ks i).length - x.low := by simp [qH, toI_len]
theorem qH_ul : ((qH c x i).ul.length : Nat) = x.us.length - x.low := by simp [qH, toI_len, col_len]
theorem qH_useE (h0 : x.low ≤ f) (h1 : f ≤ x.us.length) : useE (qH c x i) f = 0 := by
  have hk := qH_ul (c := c) (x := x) (i := i)
  have kf : (qH c x i).kf = x.low := rfl
  have uf : (qH c x i).uf = x.low := rfl
  unfold useE
  rw [if_neg (by omega), thinkE, if_neg (by omega)]
theorem qH_thinkV (h0 : x.low ≤ f) (hl : x.low ≤ (x.ks i).length) : thinkV (qH c x i) f = th x i f := by
  have hk := qH_kl (c := c) (x := x) (i := i)
  have kf : (qH c x i).kf = x.low := rfl
  have uf : (qH c x i).uf = x.low := rfl
  unfold thinkV th
  rw [if_neg (by omega)]
  by_cases h : f < (x.ks i).length
  · rw [if_neg (by omega), if_pos h]
    show nth (toI ((x.ks i).drop x.low)) ((f : Int) - (x.low : Int)).toNat = _
    rw [toI_get (by simp; omega)]
    congr 1
    rw [List.getD_eq_getElem?_getD, List.getD_eq_getElem?_getD, List.getElem?_drop]
    congr 2
    omega
  · rw [if_pos (by omega), if_neg h]
    rfl
theorem qH_useV (h0 : x.low ≤ f) (h1 : f ≤ x.us.length) (hl : x.low ≤ (x.ks i).length) : useV (qH c x i) f = th x i f := by
  unfold useV
  rw [if_pos (qH_useE h0 h1), qH_thinkV h0 hl]
theorem drop_setAt {us : List (Nat × Nat)} {low f : Nat} {v : Nat × Nat} (h0 : low ≤ f) (h1 : f ≤ us.length) (i : Nat) :
    toI ((col i (setAt us f v)).drop low) = if f = us.length then toI ((col i us).drop low) ++ [((one i v : Nat) : Int)] else (toI ((col i us).drop low)).set (f - low) (one i v : Nat) := by
  unfold setAt
  split
  · simp only [col, toI, List.map_append, List.map_cons, List.map_nil]
    rw [List.drop_append_of_le_length (by simp; omega)]
    simp
  · simp only [col, toI, List.map_set, List.map_drop]
    rw [List.drop_set]
    rw [if_neg (by omega)]
theorem qH_useQ (hi : i < 2) (h0 : x.low ≤ f) (h1 : f ≤ x.us.length) (hl : x.low ≤ (x.ks i).length) (hr : x.us.length < 256) :
    useQ (qH c x i) f = qH c { x with us := setAt x.us f (thx x f) } i := by
  have hk := qH_ul (c := c) (x := x) (i := i)
  have kf : (qH c x i).kf = x.low := rfl
  have uf : (qH c x i).uf = x.low := rfl
  unfold useQ
  rw [if_neg (by omega), if_neg (by omega), qH_thinkV h0 hl]
  have hd := drop_setAt (v := thx x f) h0 h1 i
  rw [one_thx x f hi] at hd
  by_cases e : f = x.us.length
  · rw [if_pos (by omega)]
    rw [if_pos e] at hd
    have e1 : RingInput.putF 256 (qH c x i).uf (qH c x i).ul = x.low := by
      unfold RingInput.putF; rw [if_neg (by omega)]; rfl
    have e2 : RingInput.putL 256 (qH c x i).ul (th x i f : Nat) = toI ((col i (setAt x.us f (thx x f))).drop x.low) := by
      unfold RingInput.putL; rw [if_neg (by omega), hd]; rfl
    rw [e1, e2]
    rfl
  · rw [if_neg (by omega)]
    rw [if_neg e] at hd
    have e2 : RingInput.setL (qH c x i).uf (qH c x i).ul f (th x i f : Nat) = toI ((col i (setAt x.us f (thx x f))).drop x.low) := by
      unfold RingInput.setL
      rw [if_neg (by omega), if_neg (by omega), hd]
      show (toI ((col i x.us).drop x.low)).set ((f : Int) - (x.low : Int)).toNat _ = _
      congr 1
      omega
    rw [e2]
    rfl
/-- The wrong frame behind one more known input. -/
def wrongA (x : H) (i v : Nat) : Int :=
  if (x.ks i).length < x.us.length ∧ (col i x.us).getD (x.ks i).length 0 ≠ v ∧ x.wr i < 0 then (x.ks i).length else x.wr i
def addH (x : H) (i v : Nat) : H := { x with ks := upd x.ks i (x.ks i ++ [v]), wr := upd x.wr i (wrongA x i v) }
theorem qH_addQ {v : Nat} (hl : x.low ≤ (x.ks i).length) (hu : x.low ≤ x.us.length) (hr : (x.ks i).length < 256) (hw : x.wr i ≤ (x.ks i).length) : addQ (qH c x i) v = qH c (addH x i v) i := by
  have hk := qH_kl (c := c) (x := x) (i := i)
  have kf : (qH c x i).kf = x.low := rfl
  have uf : (qH c x i).uf = x.low := rfl
  have hk2 := qH_ul (c := c) (x := x) (i := i)
  have e1 : RingInput.putF 256 (qH c x i).kf (qH c x i).kl = x.low := by
    unfold RingInput.putF; rw [if_neg (by omega)]; rfl
  have e2 : RingInput.putL 256 (qH c x i).kl v = toI ((x.ks i ++ [v]).drop x.low) := by
    unfold RingInput.putL
    rw [if_neg (by omega), List.drop_append_of_le_length hl]
    simp [qH, toI]
  have en : (qH c x i).kf + ((qH c x i).kl.length : Nat) = (((x.ks i).length : Nat) : Int) := by
    show (x.low : Int) + _ = _; omega
  have e3 : addW (qH c x i) v = wrongA x i v := by
    unfold addW
    rw [en]
    unfold wrongA
    by_cases h : (x.ks i).length < x.us.length
    · have ea : RingInput.atE (qH c x i).uf (qH c x i).ul.length ((x.ks i).length : Nat) = 0 := by
        unfold RingInput.atE
        rw [if_neg (by omega), if_neg (by omega)]
      have ev : RingInput.atV (qH c x i).uf (qH c x i).ul ((x.ks i).length : Nat) = ((col i x.us).getD (x.ks i).length 0 : Nat) := by
        unfold RingInput.atV
        rw [if_neg (by omega), if_neg (by omega)]
        show nth (toI ((col i x.us).drop x.low)) ((((x.ks i).length : Nat) : Int) - (x.low : Int)).toNat = _
        rw [toI_get (by simp [col_len]; omega)]
        congr 1
        rw [List.getD_eq_getElem?_getD, List.getD_eq_getElem?_getD, List.getElem?_drop]
        congr 2
        omega
      rw [ea, ev]
      by_cases h2 : (col i x.us).getD (x.ks i).length 0 ≠ v ∧ x.wr i < 0
      · rw [if_pos ⟨rfl, by have := h2.1; omega, .inl h2.2⟩, if_pos ⟨h, h2⟩]
      · rw [if_neg, if_neg (fun h3 => h2 h3.2)]
        · rfl
        · rintro ⟨-, a, b⟩
          refine h2 ⟨by omega, ?_⟩
          rcases b with b | b
          · exact b
          · have b' : (((x.ks i).length : Nat) : Int) < x.wr i := b
            omega
    · have ea : RingInput.atE (qH c x i).uf (qH c x i).ul.length ((x.ks i).length : Nat) = 91 := by
        unfold RingInput.atE
        rw [if_neg (by omega), if_pos (by omega)]
      rw [ea, if_neg (by omega), if_neg (fun h3 => h h3.1)]
      rfl
  unfold addQ
  rw [e1, e2, e3]
  unfold addH qH
  simp only [upd_at]
  simp
theorem qH_add_other {v j : Nat} (h : ¬ j = i) : qH c (addH x i v) j = qH c x j := by
  unfold addH qH
  simp only [upd_ne _ _ h]
/-- Inputs below a frame are not kept. -/
def lowH (x : H) (m : Int) : H := { x with low := if m ≤ x.low then x.low else m.toNat }
theorem qH_dropQ {m : Int} (h1 : m ≤ x.us.length) (h2 : m ≤ (x.ks i).length) (hl : x.low ≤ (x.ks i).length) (hu : x.low ≤ x.us.length) : dropQ (qH c x i) m = qH c (lowH x m) i := by
  have hk := qH_kl (c := c) (x := x) (i := i)
  have kf : (qH c x i).kf = x.low := rfl
  have uf : (qH c x i).uf = x.low := rfl
  have hk2 := qH_ul (c := c) (x := x) (i := i)
  have wq : (qH c x i).wrong = x.wr i := rfl
  have em : dropM (qH c x i) m = m := by
    unfold dropM
    exact if_neg (by omega)
  unfold dropQ
  rw [em]
  have eF : ∀ n : Nat, (m : Int) - x.low ≤ n → RingInput.dropF x.low n m = ((if m ≤ x.low then x.low else m.toNat : Nat) : Int) := fun n hn => by
    unfold RingInput.dropF
    split
    · rfl
    · omega
  have eL : ∀ l : List Nat, RingInput.dropL x.low (toI (l.drop x.low)) m = toI (l.drop (if m ≤ x.low then x.low else m.toNat)) := fun l => by
    unfold RingInput.dropL
    split
    · rfl
    · unfold toI
      rw [← List.map_drop, List.drop_drop]
      congr 2
      omega
  have a1 : RingInput.dropF (qH c x i).kf (qH c x i).kl.length m = _ := eF _ (by omega)
  have a2 : RingInput.dropF (qH c x i).uf (qH c x i).ul.length m = _ := eF _ (by omega)
  have a3 : RingInput.dropL (qH c x i).kf (qH c x i).kl m = _ := eL (x.ks i)
  have a4 : RingInput.dropL (qH c x i).uf (qH c x i).ul m = _ := eL (col i x.us)
  rw [a1, a2, a3, a4]
  rfl
end
end Go.Proofs.YtckkpgopddnkiaaGreat.Rl
namespace Go.Proofs.YtckkpgopddnkiaaGreat.Rl
open Go.RowKit Go.Sort Go.Proofs.YtckkpgopddnkiaaGreat.Gm Go.Proofs.YtckkpgopddnkiaaGreat.RingE Go.Proofs.YtckkpgopddnkiaaGreat.Inputq
set_option linter.all false

def pl (sd : Nat) (us : List (Nat × Nat)) (j : Nat) : F := playF (newF (sd : Int)) us j
def ent (sd : Nat) (us : List (Nat × Nat)) (j : Nat) : NT := (pl sd us j, sumL (stB (pl sd us j)))
theorem pl_inv {sd : Nat} (h : sd < 4294967296) (us : List (Nat × Nat)) (j : Nat) : Inv (j : Int) (8 * (j : Int)) (pl sd us j) := by
  have := (Inv.new (sd : Int) (by omega) (by omega)).play us j
  simpa [pl] using this
theorem inA_congr {us us' : List (Nat × Nat)} {j : Nat} (h : us[j]? = us'[j]?) : inA us j = inA us' j := by
  unfold inA
  rw [List.getD_eq_getElem?_getD, List.getD_eq_getElem?_getD, h]
theorem pl_congr (sd : Nat) {us us' : List (Nat × Nat)} : ∀ j, (∀ i, i < j → us[i]? = us'[i]?) → pl sd us j = pl sd us' j
  | 0, _ => rfl
  | j + 1, h => by
    have ih := pl_congr sd j (fun i hi => h i (by omega))
    show stepF (pl sd us j) (inA us j) = stepF (pl sd us' j) (inA us' j)
    rw [ih, inA_congr (h j (by omega))]
theorem ent_congr (sd : Nat) {us us' : List (Nat × Nat)} {j : Nat} (h : ∀ i, i < j → us[i]? = us'[i]?) : ent sd us j = ent sd us' j := by
  unfold ent
  rw [pl_congr sd j h]

/-- The saved states. -/
structure StL (sd b top fr : Nat) (us : List (Nat × Nat)) (l : List NT) : Prop where
  len : l.length = top + 1 - b
  bt : b ≤ top
  get : ∀ j, b ≤ j → j ≤ fr → l[j - b]? = some (ent sd us j)
structure Sim (c : Cfg) (p : P) (x : H) (fr top b : Nat) : Prop where
  q : ∀ i, i < 2 → p.qs i = qH c x i
  fb : p.b = b
  l : StL c.sd b top fr x.us p.l
  f : p.f = pl c.sd x.us fr
  ro : p.ro = x.ro
  re : p.re = x.re
  wo : p.wo = x.wo
/-- Sizes. -/
structure J0 (c : Cfg) (x : H) : Prop where
  sd : c.sd < 4294967296
  lo : c.lo < 2
  ah : 1 ≤ c.ah ∧ c.ah ≤ 16
  un : x.us.length ≤ 110
  kn : ∀ i, i < 2 → (x.ks i).length ≤ 250
  kv : ∀ i, i < 2 → ∀ v ∈ x.ks i, v < 65536
  ll : ∀ i, i < 2 → x.low ≤ (x.ks i).length
  lu : x.low ≤ x.us.length
  wr : ∀ i, i < 2 → -1 ≤ x.wr i ∧ x.wr i ≤ 1000
def stepH (x : H) (f : Nat) : H := { x with us := setAt x.us f (thx x f) }
theorem th_lt {c : Cfg} {x : H} (j : J0 c x) {i : Nat} (hi : i < 2) (f : Nat) : th x i f < 65536 := by
  unfold th
  split
  · rename_i h
    rw [List.getD_eq_getElem?_getD, List.getElem?_eq_getElem h]
    exact j.kv i hi _ (List.getElem_mem h)
  · rw [List.getLastD_eq_getLast?]
    cases h : (x.ks i).getLast? with
    | none => simp
    | some v => exact j.kv i hi v (List.mem_of_getLast? h)
theorem J0.step {c : Cfg} {x : H} (j : J0 c x) {f : Nat} (hf : f ≤ x.us.length) (h : f < 110) : J0 c (stepH x f) := by
  have hl := setAt_len (v := thx x f) hf
  exact ⟨j.sd, j.lo, j.ah, by show (setAt x.us f (thx x f)).length ≤ 110; have := j.un; omega, j.kn, j.kv, j.ll, by show x.low ≤ (setAt x.us f (thx x f)).length; have := j.lu; omega, j.wr⟩
section
variable {c : Cfg} {p : P} {x : H} {fr top b : Nat}
theorem Sim.nx (h : Sim c p x fr top b) (j : J0 c x) {i : Nat} (hi : i < 2) : nx p i = (x.ks i).length := by
  have e := qH_kl (c := c) (x := x) (i := i)
  have := j.ll i hi
  unfold Rl.nx
  rw [h.q i hi]
  show (x.low : Int) + ((qH c x i).kl.length : Nat) = _
  omega
theorem Sim.frame (h : Sim c p x fr top b) (j : J0 c x) : p.f 0 = fr := by rw [h.f]; exact (pl_inv j.sd _ _).frame
theorem Sim.ok (h : Sim c p x fr top b) (j : J0 c x) (hf : fr ≤ x.us.length) (ht : top ≤ x.us.length) (hb : top + 1 - b ≤ 64) : OkE c p := by
  have hl := h.l.len
  have hbt := h.l.bt
  have hun := j.un
  refine ⟨j.lo, ⟨by have := j.ah; omega, j.ah.2⟩, fun i hi => ?_, ?_, ?_, ?_, ?_, by omega, fun i hi => ?_, fun i hi => ?_⟩
  · rw [h.q i hi]
    have e1 := qH_kl (c := c) (x := x) (i := i)
    have e2 := qH_ul (c := c) (x := x) (i := i)
    have := j.kn i hi
    have := j.ll i hi
    have := j.lu
    refine ⟨?_, ?_, ?_, ?_, ?_, ?_⟩
    · show (0 : Int) ≤ (x.low : Int); omega
    · show (0 : Int) ≤ (x.low : Int); omega
    · show (x.low : Int) + ((qH c x i).kl.length : Nat) ≤ _; omega
    · show (x.low : Int) + ((qH c x i).ul.length : Nat) ≤ _; omega
    · omega
    · omega
  · rw [h.frame j]; omega
  · rw [h.frame j]; omega
  · rw [h.fb]; omega
  · rw [h.fb]; omega
  · rw [h.nx j hi]; have := j.kn i hi; omega
  · rw [h.q i hi]
    have := j.wr i hi
    exact ⟨this.1, by show x.wr i ≤ _; omega⟩
/-- What step asks for. -/
theorem Sim.can (h : Sim c p x fr top b) (j : J0 c x) (hf : fr ≤ x.us.length) (hlo : x.low ≤ fr) : (∀ i, i < 2 → useE (p.qs i) (p.f 0) = 0) ∧ (∀ i, i < 2 → useV (p.qs i) (p.f 0) = th x i fr) := by
  refine ⟨fun i hi => ?_, fun i hi => ?_⟩
  · rw [h.q i hi, h.frame j]; exact qH_useE hlo hf
  · rw [h.q i hi, h.frame j]; exact qH_useV hlo hf (j.ll i hi)
theorem Sim.nextF (h : Sim c p x fr top b) (j : J0 c x) (hf : fr ≤ x.us.length) (hlo : x.low ≤ fr) : nextF p = pl c.sd (stepH x fr).us (fr + 1) := by
  have hc := (h.can j hf hlo).2
  have hin : inN p = inA (stepH x fr).us fr := by
    unfold inN inA
    rw [hc 0 (by omega), hc 1 (by omega), List.getD_eq_getElem?_getD, show (stepH x fr).us = setAt x.us fr (thx x fr) from rfl, setAt_get hf, if_pos rfl]
    rfl
  show stepF p.f (inN p) = stepF (pl c.sd (stepH x fr).us fr) (inA (stepH x fr).us fr)
  rw [hin, h.f]
  congr 1
  refine pl_congr c.sd fr (fun i hi => ?_)
  rw [show (stepH x fr).us = setAt x.us fr (thx x fr) from rfl, setAt_get hf, if_neg (by omega)]
theorem Sim.saveE (h : Sim c p x fr top b) (j : J0 c x) (hf : fr ≤ x.us.length) (hlo : x.low ≤ fr) (hbf : b ≤ fr) (hft : fr ≤ top) : Sav.saveE p.b p.l (Rl.nextF p 0) = 0 ∧ Sav.baseF p.b p.l (Rl.nextF p 0) = b := by
  have hl := h.l.len
  have hbt := h.l.bt
  have e0 : Rl.nextF p 0 = (fr : Int) + 1 := by rw [h.nextF j hf hlo]; exact (pl_inv j.sd _ (fr + 1)).frame
  have eb : Sav.baseF p.b p.l (Rl.nextF p 0) = b := by
    have hn : ¬ Sav.saveP p.b p.l (Rl.nextF p 0) := by rintro ⟨h0, -⟩; omega
    unfold Sav.baseF
    rw [if_neg hn, h.fb]
  refine ⟨?_, eb⟩
  unfold Sav.saveE
  rw [eb, e0, if_neg (by omega), if_neg (by omega)]
theorem Sim.step (h : Sim c p x fr top b) (j : J0 c x) (hf : fr ≤ x.us.length) (hlo : x.low ≤ fr) (hbf : b ≤ fr) (hft : fr ≤ top) (hb64 : fr + 1 - b ≤ 64) :
    Sim c (stepP p) (stepH x fr) (fr + 1) (fr + 1) (if fr + 1 - b = 64 then b + 1 else b) := by
  have hl := h.l.len
  have hbt := h.l.bt
  have hun := j.un
  obtain ⟨es, eb⟩ := h.saveE j hf hlo hbf hft
  have e0 : Rl.nextF p 0 = (fr : Int) + 1 := by rw [h.nextF j hf hlo]; exact (pl_inv j.sd _ (fr + 1)).frame
  have hn := h.nextF j hf hlo
  have ecut : RingE.cutL b p.l ((fr : Int) + 1) = p.l.take (fr + 1 - b) := by
    unfold RingE.cutL
    split
    · congr 1; omega
    · rw [List.take_of_length_le (by omega)]
  have hcl : (p.l.take (fr + 1 - b)).length = fr + 1 - b := by rw [List.length_take]; omega
  have hus : ∀ i, i < fr → (stepH x fr).us[i]? = x.us[i]? := fun i hi => by
    rw [show (stepH x fr).us = setAt x.us fr (thx x fr) from rfl, setAt_get hf, if_neg (by omega)]
  have hent : (Rl.nextF p, sumL (stB (Rl.nextF p))) = ent c.sd (stepH x fr).us (fr + 1) := by rw [hn]; rfl
  have hgl : ∀ j', b ≤ j' → j' ≤ fr → (p.l.take (fr + 1 - b))[j' - b]? = some (ent c.sd (stepH x fr).us j') := fun j' h1 h2 => by
    rw [List.getElem?_take, if_pos (by omega), h.l.get j' h1 h2]
    rw [ent_congr c.sd (fun i hi => (hus i (by omega)).symm)]
  have eF : Sav.saveF 64 p.b p.l (Rl.nextF p) = ((if fr + 1 - b = 64 then b + 1 else b : Nat) : Int) := by
    unfold Sav.saveF
    rw [if_pos es, eb, e0, ecut]
    unfold RingE.putF
    rw [hcl]
    by_cases e : fr + 1 - b = 64
    · rw [if_pos (by omega), if_pos e]; omega
    · rw [if_neg (by omega), if_neg e]
  have eL : Sav.saveL 64 p.b p.l (Rl.nextF p) = (if fr + 1 - b = 64 then (p.l.take (fr + 1 - b)).drop 1 else p.l.take (fr + 1 - b)) ++ [ent c.sd (stepH x fr).us (fr + 1)] := by
    unfold Sav.saveL
    rw [if_pos es, eb, e0, ecut]
    unfold RingE.putL
    rw [hcl, hent]
    by_cases e : fr + 1 - b = 64
    · rw [if_pos (by omega), if_pos e]
    · rw [if_neg (by omega), if_neg e]
  refine ⟨fun i hi => ?_, eF, ?_, hn, h.ro, h.re, h.wo⟩
  · have hq : (stepP p).qs i = useQ (p.qs i) (p.f 0) := by
      show (usedN p 2).qs i = _
      obtain rfl | rfl : i = 0 ∨ i = 1 := by omega
      · rfl
      · rfl
    rw [hq, h.q i hi, h.frame j]
    exact qH_useQ hi hlo hf (j.ll i hi) (by omega)
  · show StL c.sd _ (fr + 1) (fr + 1) (stepH x fr).us (Sav.saveL 64 p.b p.l (Rl.nextF p))
    rw [eL]
    by_cases e : fr + 1 - b = 64
    · rw [if_pos e, if_pos e]
      have hdl : ((p.l.take (fr + 1 - b)).drop 1).length = fr - b := by rw [List.length_drop, hcl]; omega
      refine ⟨by rw [List.length_append, hdl]; simp; omega, by omega, fun j' h1 h2 => ?_⟩
      by_cases h3 : j' ≤ fr
      · rw [List.getElem?_append_left (by omega), List.getElem?_drop, show 1 + (j' - (b + 1)) = j' - b by omega]
        exact hgl j' (by omega) h3
      · obtain rfl : j' = fr + 1 := by omega
        rw [List.getElem?_append_right (by omega), hdl, show fr + 1 - (b + 1) - (fr - b) = 0 by omega]
        rfl
    · rw [if_neg e, if_neg e]
      refine ⟨by rw [List.length_append, hcl]; simp; omega, by omega, fun j' h1 h2 => ?_⟩
      by_cases h3 : j' ≤ fr
      · rw [List.getElem?_append_left (by omega)]
        exact hgl j' h1 h3
      · obtain rfl : j' = fr + 1 := by omega
        rw [List.getElem?_append_right (by omega), hcl, show fr + 1 - b - (fr + 1 - b) = 0 by omega]
        rfl
end

/-- What a call leaves, told by the history. -/
def TurnedH (w : World) (c : Cfg) (s : SE) (x : H) (fr top b : Nat) (w' : World) : Prop := ∃ p', Sim c p' x fr top b ∧ TurnedE w c s p' w'
theorem step_sim (w : World) (c : Cfg) (s : SE) (p : P) (C : Array Value) (x : H) (fr top b : Nat) (h : EAt w c s p C) (hs : Sim c p x fr top b) (j : J0 c x) (hf : fr ≤ x.us.length) (ht : top ≤ x.us.length) (hlo : x.low ≤ fr) (hbf : b ≤ fr) (hft : fr ≤ top) (hb64 : top + 1 - b ≤ 64) :
    Calls Tryz.prog 38 #[.pointer (some ⟨s.g, 0, none⟩)] w fun e w' => e = .returned (.int .i64 0) ∧ TurnedH w c s (stepH x fr) (fr + 1) (fr + 1) (if fr + 1 - b = 64 then b + 1 else b) w' := by
  have hun := j.un
  obtain ⟨h1, h2⟩ := hs.can j hf hlo
  have hI := pl_inv j.sd x.us fr
  rw [← hs.f] at hI
  have := step_any w c s p C fr (8 * (fr : Int)) h (hs.ok j hf ht hb64) hI (by omega) (by omega) (by omega) h1 (fun i hi => by
    rw [h2 i hi]; have := th_lt j hi fr; omega)
  rw [(hs.saveE j hf hlo hbf hft).1] at this
  exact this.mono fun e w' ⟨e1, ht⟩ => ⟨e1, stepP p, hs.step j hf hlo hbf hft (by omega), ht⟩
end Go.Proofs.YtckkpgopddnkiaaGreat.Rl
namespace Go.Proofs.YtckkpgopddnkiaaGreat.Rl
open Go.RowKit Go.Sort Go.Proofs.YtckkpgopddnkiaaGreat.Gm Go.Proofs.YtckkpgopddnkiaaGreat.RingE Go.Proofs.YtckkpgopddnkiaaGreat.Inputq
set_option linter.all false

def fromP (p : P) : Nat → Int
  | 0 => p.f 0
  | i + 1 => if 0 ≤ (p.qs i).wrong then minI (fromP p i) (p.qs i).wrong else fromP p i
def rightN (p : P) : Nat → P
  | 0 => p
  | i + 1 => { rightN p i with qs := upd (rightN p i).qs i { p.qs i with wrong := -1 } }
theorem rightN_ge (p : P) : ∀ i j, i ≤ j → (rightN p i).qs j = p.qs j
  | 0, _, _ => rfl
  | i + 1, j, h => by
    show upd (rightN p i).qs i _ j = _
    rw [upd_ne _ _ (by omega)]
    exact rightN_ge p i j (by omega)
theorem rightN_f (p : P) : ∀ i, (rightN p i).f = p.f ∧ (rightN p i).b = p.b ∧ (rightN p i).l = p.l
  | 0 => ⟨rfl, rfl, rfl⟩
  | i + 1 => rightN_f p i
def fromN (x : H) : Nat → Int
  | 0 => x.us.length
  | i + 1 => if 0 ≤ x.wr i then minI (fromN x i) (x.wr i) else fromN x i
/-- The first frame that is played again. -/
def fromH (x : H) : Nat := (fromN x 2).toNat
def rH (x : H) : H := { x with wr := fun _ => -1 }
def reH (x : H) (a : Nat) : Nat → H
  | 0 => x
  | m + 1 => stepH (reH x a m) (a + m)
def fixN (x : H) : Nat := x.us.length - fromH x
def fixH (x : H) : H := if fixN x = 0 then rH x else { reH (rH x) (fromH x) (fixN x) with ro := x.ro + 1, re := x.re + fixN x, wo := max x.wo (fixN x) }

/-- What is true of a history between calls. -/
structure J (c : Cfg) (x : H) : Prop where
  sd : c.sd < 4294967296
  lo : c.lo < 2
  ah : 1 ≤ c.ah ∧ c.ah ≤ 16
  de : 0 ≤ c.de ∧ c.de ≤ 8
  un : x.us.length ≤ 110
  kv : ∀ i, i < 2 → ∀ v ∈ x.ks i, v < 65536
  ll : ∀ i, i < 2 → x.low ≤ (x.ks i).length
  lw : x.low + 64 ≤ x.us.length ∨ x.low = 0
  wb : ∀ i, i < 2 → x.wr i = -1 ∨ (0 ≤ x.wr i ∧ x.wr i < x.us.length ∧ x.us.length ≤ x.wr i + 16 ∧ x.wr i < (x.ks i).length)
  nc : ∀ i, i < 2 → (x.us.length : Int) ≤ (x.ks i).length + c.ah
  lk : ((x.ks c.lo).length : Int) = c.de + x.us.length
  rk : (x.ks (1 - c.lo)).length ≤ x.us.length + 128
  ag : ∀ i, i < 2 → ∀ j, j < x.us.length → j < (x.ks i).length → (x.wr i = -1 ∨ (j : Int) < x.wr i) → (col i x.us)[j]? = (x.ks i)[j]?
section
variable {c : Cfg} {x : H}
theorem J.two {Q : Nat → Prop} (j : J c x) (h0 : Q c.lo) (h1 : Q (1 - c.lo)) : ∀ i, i < 2 → Q i := fun i hi => by
  have := j.lo
  obtain h | h : i = c.lo ∨ i = 1 - c.lo := by omega
  · rw [h]; exact h0
  · rw [h]; exact h1
theorem J.kn (j : J c x) : ∀ i, i < 2 → (x.ks i).length ≤ 250 := j.two (by have := j.lk; have := j.un; have := j.de; omega) (by have := j.rk; have := j.un; omega)
theorem J.j0 (j : J c x) : J0 c x :=
  ⟨j.sd, j.lo, j.ah, j.un, j.kn, j.kv, j.ll, by have := j.lw; omega, fun i hi => by have := j.wb i hi; have := j.un; omega⟩
theorem J.j0r (j : J c x) : J0 c (rH x) :=
  ⟨j.sd, j.lo, j.ah, j.un, j.kn, j.kv, j.ll, by have := j.lw; show x.low ≤ x.us.length; omega, fun i hi => by show -1 ≤ (-1 : Int) ∧ (-1 : Int) ≤ 1000; omega⟩
theorem fromN_le (x : H) : ∀ i, fromN x i ≤ x.us.length
  | 0 => Int.le_refl _
  | i + 1 => by
    have ih := fromN_le x i
    have := minI_le (fromN x i) (x.wr i)
    show (if 0 ≤ x.wr i then _ else _) ≤ _
    split <;> omega
theorem J.from (j : J c x) : ∀ i, i ≤ 2 → 0 ≤ fromN x i ∧ (x.us.length : Int) ≤ fromN x i + 16 := by
  intro i
  induction i with
  | zero => intro _; show (0 : Int) ≤ x.us.length ∧ (x.us.length : Int) ≤ x.us.length + 16; omega
  | succ i ih =>
    intro hi
    have ih := ih (by omega)
    have := minI_le (fromN x i) (x.wr i)
    have := j.wb i (by omega)
    show 0 ≤ (if 0 ≤ x.wr i then _ else _) ∧ _ ≤ (if 0 ≤ x.wr i then _ else _) + 16
    split <;> omega
theorem J.fromH (j : J c x) : (Rl.fromH x : Int) = fromN x 2 ∧ Rl.fromH x ≤ x.us.length ∧ x.us.length ≤ Rl.fromH x + 16 := by
  have a := j.from 2 (by omega)
  have b := fromN_le x 2
  unfold Rl.fromH
  omega
theorem from_wr {i : Nat} (hi : i < 2) (h : 0 ≤ x.wr i) : fromN x 2 ≤ x.wr i := by
  have e1 : fromN x 1 = if 0 ≤ x.wr 0 then minI (fromN x 0) (x.wr 0) else fromN x 0 := rfl
  have e2 : fromN x 2 = if 0 ≤ x.wr 1 then minI (fromN x 1) (x.wr 1) else fromN x 1 := rfl
  have m1 := minI_le (fromN x 0) (x.wr 0)
  have m2 := minI_le (fromN x 1) (x.wr 1)
  obtain rfl | rfl : i = 0 ∨ i = 1 := by omega
  · rw [if_pos h] at e1; split at e2 <;> omega
  · rw [if_pos h] at e2; omega
/-- The first frame that is played again is wrong for somebody, or there is none. -/
theorem from_or : fromN x 2 = x.us.length ∨ (0 ≤ x.wr 0 ∧ fromN x 2 = x.wr 0) ∨ (0 ≤ x.wr 1 ∧ fromN x 2 = x.wr 1) := by
  have e0 : fromN x 0 = x.us.length := rfl
  have e1 : fromN x 1 = if 0 ≤ x.wr 0 then minI (fromN x 0) (x.wr 0) else fromN x 0 := rfl
  have e2 : fromN x 2 = if 0 ≤ x.wr 1 then minI (fromN x 1) (x.wr 1) else fromN x 1 := rfl
  have m1 := minI_le (fromN x 0) (x.wr 0)
  have m2 := minI_le (fromN x 1) (x.wr 1)
  split at e1 <;> split at e2 <;> omega
theorem reH_same (x : H) (a : Nat) : ∀ m, (reH x a m).ks = x.ks ∧ (reH x a m).wr = x.wr ∧ (reH x a m).low = x.low ∧ (reH x a m).ro = x.ro ∧ (reH x a m).re = x.re ∧ (reH x a m).wo = x.wo
  | 0 => ⟨rfl, rfl, rfl, rfl, rfl, rfl⟩
  | m + 1 => reH_same x a m
theorem reH_len (x : H) (a : Nat) : ∀ m, a + m ≤ x.us.length → (reH x a m).us.length = x.us.length
  | 0, _ => rfl
  | m + 1, h => by
    have ih := reH_len x a m (by omega)
    show (setAt (reH x a m).us (a + m) _).length = _
    rw [setAt_len (by omega)]
    omega
theorem th_ks {x y : H} (h : x.ks = y.ks) (i f : Nat) : th x i f = th y i f := by unfold th; rw [h]
theorem reH_get (x : H) (a : Nat) : ∀ m, a + m ≤ x.us.length → ∀ j, (reH x a m).us[j]? = if a ≤ j ∧ j < a + m then some (thx x j) else x.us[j]?
  | 0, _, j => by rw [if_neg (by omega)]; rfl
  | m + 1, h, j => by
    have ih := reH_get x a m (by omega) j
    have hl := reH_len x a m (by omega)
    show (setAt (reH x a m).us (a + m) (thx (reH x a m) (a + m)))[j]? = _
    rw [setAt_get (by omega)]
    have ek := (reH_same x a m).1
    by_cases e : j = a + m
    · subst e
      rw [if_pos rfl, if_pos (by omega)]
      unfold thx
      rw [th_ks ek, th_ks ek]
    · rw [if_neg e, ih]
      by_cases e2 : a ≤ j ∧ j < a + m
      · rw [if_pos e2, if_pos (by omega)]
      · rw [if_neg e2, if_neg (by omega)]
theorem J0.re {c : Cfg} {x : H} (j : J0 c x) (a : Nat) : ∀ m, a + m ≤ x.us.length → J0 c (reH x a m)
  | 0, _ => j
  | m + 1, h => by
    have ih := J0.re j a m (by omega)
    have hl := reH_len x a m (by omega)
    have := j.un
    exact ih.step (by omega) (by omega)
theorem fixH_len (j : J c x) : (fixH x).us.length = x.us.length := by
  have := j.fromH
  unfold fixH
  split
  · rfl
  · exact reH_len (rH x) _ _ (by show Rl.fromH x + fixN x ≤ x.us.length; unfold fixN; omega)
theorem fixH_same (x : H) : (fixH x).ks = x.ks ∧ (fixH x).wr = (fun _ => -1) ∧ (fixH x).low = x.low := by
  unfold fixH
  split
  · exact ⟨rfl, rfl, rfl⟩
  · have := reH_same (rH x) (Rl.fromH x) (fixN x)
    exact ⟨this.1, this.2.1, this.2.2.1⟩
theorem fixH_get (j : J c x) (i : Nat) : (fixH x).us[i]? = if Rl.fromH x ≤ i ∧ i < x.us.length then some (thx x i) else x.us[i]? := by
  have hf := j.fromH
  unfold fixH
  split
  · rename_i e
    unfold fixN at e
    rw [if_neg (by omega)]
    rfl
  · have := reH_get (rH x) (Rl.fromH x) (fixN x) (by show Rl.fromH x + fixN x ≤ x.us.length; unfold fixN; omega) i
    refine this.trans ?_
    by_cases h : Rl.fromH x ≤ i ∧ i < x.us.length
    · rw [if_pos h, if_pos (by unfold fixN; omega)]
      rfl
    · rw [if_neg h, if_neg (by unfold fixN; omega)]
      rfl
theorem col_get (i : Nat) (us : List (Nat × Nat)) (j : Nat) : (col i us)[j]? = (us[j]?).map (one i) := by unfold col; rw [List.getElem?_map]
theorem th_known {i f : Nat} (h : f < (x.ks i).length) : some (th x i f) = (x.ks i)[f]? := by
  unfold th
  rw [if_pos h, List.getD_eq_getElem?_getD, List.getElem?_eq_getElem h]
  rfl
theorem J.fix (j : J c x) : J c (fixH x) := by
  obtain ⟨e1, e2, e3⟩ := fixH_same x
  have el := fixH_len j
  have hf := j.fromH
  refine ⟨j.sd, j.lo, j.ah, j.de, by rw [el]; exact j.un, by rw [e1]; exact j.kv, by rw [e1, e3]; exact j.ll, by rw [e3, el]; exact j.lw, fun i hi => .inl (by rw [e2]), by rw [e1, el]; exact j.nc, by rw [e1, el]; exact j.lk, by rw [e1, el]; exact j.rk, fun i hi k hk hkk _ => ?_⟩
  rw [el] at hk
  rw [e1] at hkk ⊢
  rw [col_get, fixH_get j]
  by_cases h : Rl.fromH x ≤ k
  · rw [if_pos ⟨h, hk⟩, Option.map_some, one_thx x k hi, th_known hkk]
  · rw [if_neg (by omega), ← col_get]
    refine j.ag i hi k hk hkk ?_
    by_cases hw : 0 ≤ x.wr i
    · have := from_wr hi hw; right; omega
    · have := j.wb i hi; left; omega
end
theorem Sim.fromP {c : Cfg} {p : P} {x : H} {b top : Nat} (h : Sim c p x x.us.length top b) (j : J0 c x) : ∀ i, i ≤ 2 → Rl.fromP p i = fromN x i := by
  intro i
  induction i with
  | zero => intro _; exact h.frame j
  | succ i ih =>
    intro hi
    have e : (p.qs i).wrong = x.wr i := by rw [h.q i (by omega)]; rfl
    show (if 0 ≤ (p.qs i).wrong then minI (Rl.fromP p i) (p.qs i).wrong else Rl.fromP p i) = (if 0 ≤ x.wr i then minI (fromN x i) (x.wr i) else fromN x i)
    rw [e, ih (by omega)]
theorem Sim.right {c : Cfg} {p : P} {x : H} {b top fr : Nat} (h : Sim c p x fr top b) : Sim c (rightN p 2) (rH x) fr top b := by
  refine ⟨fun i hi => ?_, h.fb, h.l, h.f, h.ro, h.re, h.wo⟩
  have e : (rightN p 2).qs i = { p.qs i with wrong := -1 } := by
    obtain rfl | rfl : i = 0 ∨ i = 1 := by omega
    · rfl
    · rfl
  rw [e, h.q i hi]
  rfl
end Go.Proofs.YtckkpgopddnkiaaGreat.Rl
namespace Go.Proofs.YtckkpgopddnkiaaGreat.Sav
open Go.RowKit Go.Sort Go.Proofs.YtckkpgopddnkiaaGreat.Gm Go.Proofs.YtckkpgopddnkiaaGreat.RingE
set_option linter.all false

theorem hz67 : Tryz.zeroCells98.size = 67 := by rw [zE]; simp [cs_len]
theorem alloc_storeE (w : World) {C : Array Value} {x : NT} (L : EL C x) : ∃ W3, (storeCells ⟨w.heap.size, 0, none⟩ C.toList).run Tryz.prog (w.alloc (.cells Tryz.zeroCells98 98)) = .ok () W3 ∧ Blk W3 w.heap.size 98 C ∧ Below w.heap.size w W3 ∧ w.heap.size + 1 = W3.heap.size := by
  have hX : Blk (w.alloc (.cells Tryz.zeroCells98 98)) w.heap.size 98 Tryz.zeroCells98 := Blk.new _ _ _
  have := run_storeCells_from (P := Tryz.prog) w.heap.size 98 C.toList 0 _ _ hX (by rw [hz67]; simp [L.size]) (fun v hv => (Array.all_eq_true_iff_forall_mem.1 L.one) v (by simpa using hv))
  refine ⟨_, this, ?_, ?_, by simp⟩
  · have e : (Tryz.zeroCells98.toList.take 0 ++ C.toList).toArray = C := by simp
    rw [e]
    exact hX.setRow C
  · exact ((Below.refl _ w).alloc (Nat.le_refl _) _).trans ((touch_setRow _ w.heap.size _).below (by simp) (fun k hk => by omega))
theorem el_sum {C : Array Value} {x : NT} (h : EL C x) : C[66]? = some (.int .u32 x.2) := by
  rw [← Array.getElem?_toList, h.eq]
  simp [cs, stA_size]
theorem el_state {C : Array Value} {x : NT} (h : EL C x) {m : Nat} {v : Value} (hv : (stA x.1).toList[m]? = some v) : C[m]? = some v := by
  rw [← Array.getElem?_toList, h.eq]
  unfold cs
  rw [List.getElem?_append_left]
  · exact hv
  · exact (List.getElem?_eq_some_iff.1 hv).1

set_option maxRecDepth 100000 in
set_option maxHeartbeats 4000000 in
theorem sum_any (w : World) (g r : Nat) (room first n : Int) (sv : Value) (l : List NT) (h : SA w g r room first sv l) (h0 : 0 ≤ first) (hn : n ≤ 9223372036854775807) :
    Calls Tryz.prog 26 #[.pointer (some ⟨g, 0, none⟩), .int .i64 n] w fun e w' => e = .returned (.tuple #[.int .u32 (atX first l n).2, .int .i64 (atE first l.length n)]) ∧ Below w.heap.size w w' := by
  have c0 := h.c0
  have p := Lib.hid (at_any w r room first n sv l h.2 h0 hn)
  clear h
  go_enter Tryz.func26, Tryz.ntmps26
  go_wp2_with fail
  refine p.out.mono ?_
  rintro e w1 ⟨E, LE, rfl, hb⟩
  obtain ⟨W3, hrun, hB3, hb3, hz3⟩ := alloc_storeE w1 LE
  have hes := LE.size
  have hz67' := hz67
  have HL := Lib.hid LE
  clear LE
  go_upto_region 2 with fail
  clear hrun hz67'
  have c1 : W3.cell? ⟨w1.heap.size, 66, none⟩ = some (.int .u32 (atX first l n).2) := (hB3.cell 66).trans (el_sum HL.out)
  have HB := Lib.hid (hb.trans (hb3.mono hb.size))
  clear hB3 hb3 hb
  go_wp2_with fail
  go_ret2
  exact ⟨rfl, HB.out⟩

/-- Two results, the first a state in a cell. -/
theorem pair_resultsS {fn : Func} (hfn : fn.results = #[.cell 4 47, .tmp 5]) (tmps : Array Value) (W : World) (g : Nat) (t : TypeId) (C : Array Value) (v : Value) (h : Blk W g t C) (hC : (Tryz.prog.info? 47).map (·.size) = some C.size)
    (h4 : tmps.getD 4 undef = .pointer (some ⟨g, 0, none⟩)) (h5 : tmps.getD 5 undef = v) : (results fn tmps).run Tryz.prog W = .ok (.tuple #[.agg C, v]) W := by
  have e4 : tmps[4]?.getD undef = .pointer (some ⟨g, 0, none⟩) := by simpa using h4
  have e5 : tmps[5]?.getD undef = v := by simpa using h5
  have hl := run_loadVar_row (P := Tryz.prog) W g t 47 C (0, 0) _ h Tryz.underlying47 rfl hC
  simp [results, hfn, e4, e5, asAddr, hl]

set_option maxRecDepth 100000 in
set_option maxHeartbeats 4000000 in
theorem sat_any (w : World) (g r : Nat) (room first n : Int) (sv : Value) (l : List NT) (h : SA w g r room first sv l) (h0 : 0 ≤ first) (hn : n ≤ 9223372036854775807) :
    Calls Tryz.prog 25 #[.pointer (some ⟨g, 0, none⟩), .int .i64 n] w fun e w' => ∃ C, Let C (atX first l n).1 ∧ e = .returned (.tuple #[.agg C, .int .i64 (atE first l.length n)]) ∧ Below w.heap.size w w' := by
  obtain ⟨Z, LZ⟩ := let_of zF
  have hZ : Tryz.zeroCells47 = Z := by rw [LZ.eq, ← stA_zero]
  obtain ⟨W1, hW1⟩ : ∃ W1, W1 = w.alloc (.cells Z 47) := ⟨_, rfl⟩
  have hR : Blk W1 w.heap.size 47 Z := by rw [hW1]; exact Blk.new _ _ _
  have hB : Below w.heap.size w W1 := by rw [hW1]; exact (Below.refl _ w).alloc (Nat.le_refl _) _
  have hA := h.below hB
  have c0 := hA.c0
  have p := Lib.hid (at_any W1 r room first n sv l hA.2 h0 hn)
  have hzs := LZ.size
  have HB := Lib.hid hB
  obtain ⟨D, LD⟩ := let_of (atX first l n).1
  have hds := LD.size
  have hdo := LD.one
  have hdi := LD.info
  have hdl : (Tryz.prog.info? 47).map (·.size) = some D.toList.length := by rw [Array.length_toList]; exact hdi
  have hzd : Z.size = D.size := by rw [hzs, hds]
  have HD := Lib.hid LD
  clear h hA hB LZ LD
  go_enter Tryz.func25, Tryz.ntmps25
  go_upto_region 1 with fail
  rw [← hW1]
  clear hW1 hZ
  go_wp2_with fail
  refine p.out.mono ?_
  rintro e w1 ⟨E, LE, rfl, hb⟩
  obtain ⟨W3, hrun, hB3, hb3, hz3⟩ := alloc_storeE w1 LE
  have hes := LE.size
  have hz67' := hz67
  have HL := Lib.hid LE
  clear LE
  go_upto_region 2 with fail
  clear hrun hz67' p
  have hrg : W3.rangeAt w1.heap.size 0 D.toList := fun m v hv => by
    rw [Nat.zero_add]
    exact (hB3.cell m).trans (el_state HL.out (by rw [← HD.out.eq]; exact hv))
  have HW := Lib.hid (hb.trans (hb3.mono hb.size))
  have hR3 := hR.below (HW.out) (by exact hR.lt)
  have hne := hR.lt
  clear hR hB3 hb3 hb
  go_wp2_with (first
    | (refine wpList_load_mid (by rfl) 47 _ (by rfl) w1.heap.size 0 (by rfl) D.toList _ hrg Tryz.underlying47 (by rfl) hdl ?_)
    | (refine wpList_store_blk (by rfl) 47 _ _ (by rfl) w.heap.size D (by rfl) (by rfl) _ Z hR3 hdi hzd hdo ?_; intro W6 hd6 ht6)
    | fail)
  refine bodyPost_ret (v := .tuple #[.agg D, .int .i64 (atE first l.length n)]) (pair_resultsS Tryz.results25 _ _ w.heap.size _ D _ hd6 hdi (by rfl) (by rfl)) rfl ⟨D, HD.out, rfl, ?_⟩
  have h1 := HB.out.trans (HW.out.mono HB.out.size)
  exact h1.trans (ht6.below h1.size (fun k hk => by omega))
end Go.Proofs.YtckkpgopddnkiaaGreat.Sav
namespace Go.Proofs.YtckkpgopddnkiaaGreat.Sav
open Go.RowKit Go.Sort Go.Proofs.YtckkpgopddnkiaaGreat.Gm Go.Proofs.YtckkpgopddnkiaaGreat.RingE
set_option linter.all false
end Go.Proofs.YtckkpgopddnkiaaGreat.Sav
namespace Go.Proofs.YtckkpgopddnkiaaGreat.Sav
open Go.RowKit Go.Sort Go.Proofs.YtckkpgopddnkiaaGreat.Gm Go.Proofs.YtckkpgopddnkiaaGreat.RingE
set_option linter.all false
/-- The reference's states as a value. -/
def refV (room first : Int) (a : Option Addr) (len cap : Nat) : Value := .agg #[.int .i64 room, .int .i64 first, .slice a len cap]
/-- The error's number of a frame. -/
def ratE (first : Int) (len : Nat) (n : Int) : Int := if n < first then 90 else if first + len ≤ n then 91 else 0
end Go.Proofs.YtckkpgopddnkiaaGreat.Sav
