/-
  Texts joined: RlV, Open, OpenI2, Rnew, Rfire. No condition.
-/
import Derived.Test.YtckkpgopddnkiaaBRoll13
import Derived.ProofKit
import Derived.OpenShut
import Derived.Deep.Strs
import Derived.Deep.Slices
import Derived.Deep.Fields
import Derived.ChangeSame
namespace Go.Proofs.Ytckkpgopddnkiaa.Rl
open Go.RowKit Go.Sort Go.Proofs.Ytckkpgopddnkiaa.Gm Go.Proofs.Ytckkpgopddnkiaa.RingE Go.Proofs.Ytckkpgopddnkiaa.Inputq
set_option linter.all false

/-- A script in memory: kind, input, how often. -/
def ROps (w : World) (a : Option Addr) (ops : List (Int × Nat × Int)) : Prop :=
  (∀ o ∈ ops, o.2.1 < 65536 ∧ (-9223372036854775808 ≤ o.1 ∧ o.1 ≤ 9223372036854775807) ∧ (-9223372036854775808 ≤ o.2.2 ∧ o.2.2 ≤ 9223372036854775807)) ∧
  (0 < ops.length → ∃ b off, a = some ⟨b, off, none⟩ ∧ b < w.heap.size ∧ ∀ j o, ops[j]? = some o →
    w.cell? ⟨b, off + j * 3, none⟩ = some (.int .i64 o.1) ∧ w.cell? ⟨b, off + j * 3 + 1, none⟩ = some (.int .u16 (o.2.1 : Int)) ∧ w.cell? ⟨b, off + j * 3 + 1 + 1, none⟩ = some (.int .i64 o.2.2))
theorem ROps.below {w w' : World} {a : Option Addr} {ops : List (Int × Nat × Int)} (h : ROps w a ops) (hb : Below w.heap.size w w') : ROps w' a ops :=
  ⟨h.1, fun hp => by
    obtain ⟨b, off, e, hlt, hc⟩ := h.2 hp
    refine ⟨b, off, e, Nat.lt_of_lt_of_le hlt hb.size, fun j o ho => ?_⟩
    obtain ⟨h0, h1, h2⟩ := hc j o ho
    exact ⟨(hb.cell (p := ⟨b, _, none⟩) hlt).trans h0, (hb.cell (p := ⟨b, _, none⟩) hlt).trans h1, (hb.cell (p := ⟨b, _, none⟩) hlt).trans h2⟩⟩

/-- The frames that are sure were played with the known inputs. -/
theorem sure_us {c : Cfg} {x : H} (j : J c x) {i : Nat} (hi : (i : Int) < sureH x) : x.us[i]? = some ((x.ks 0).getD i 0, (x.ks 1).getD i 0) := by
  have hs := sureH_le x
  have key : ∀ k, k < 2 → x.wr k = -1 ∨ (i : Int) < x.wr k := fun k hk => by
    have e0 : sureHN x 0 = minI (confH x) x.us.length := rfl
    have e1 : sureHN x 1 = if 0 ≤ x.wr 0 then minI (sureHN x 0) (x.wr 0) else sureHN x 0 := rfl
    have e2 : sureH x = if 0 ≤ x.wr 1 then minI (sureHN x 1) (x.wr 1) else sureHN x 1 := rfl
    have m1 := minI_le (sureHN x 0) (x.wr 0)
    have m2 := minI_le (sureHN x 1) (x.wr 1)
    have b := j.wb k hk
    obtain rfl | rfl : k = 0 ∨ k = 1 := by omega
    · split at e1 <;> split at e2 <;> omega
    · split at e1 <;> split at e2 <;> omega
  have h0 := j.ag 0 (by omega) i (by omega) (by omega) (key 0 (by omega))
  have h1 := j.ag 1 (by omega) i (by omega) (by omega) (key 1 (by omega))
  have hu : i < x.us.length := by omega
  rw [col_get, List.getElem?_eq_getElem hu] at h0 h1
  rw [List.getElem?_eq_getElem hu]
  rw [List.getD_eq_getElem?_getD, List.getD_eq_getElem?_getD, ← h0, ← h1]
  rfl
/-- Two histories whose known inputs are the same as far as both are sure. -/
theorem sums_same {c1 c2 : Cfg} {x y : H} (j1 : J c1 x) (j2 : J c2 y) (hsd : c1.sd = c2.sd) (hk : ∀ k, k < 2 → ∀ i, i < (x.ks k).length → i < (y.ks k).length → (x.ks k)[i]? = (y.ks k)[i]?) {n : Nat} (h1 : (n : Int) ≤ sureH x) (h2 : (n : Int) ≤ sureH y) :
    pl c1.sd x.us n = pl c2.sd y.us n := by
  rw [hsd]
  refine pl_congr _ n (fun i hi => ?_)
  have a := sureH_le x
  have b := sureH_le y
  rw [sure_us j1 (by omega), sure_us j2 (by omega)]
  have e : ∀ k, k < 2 → (x.ks k).getD i 0 = (y.ks k).getD i 0 := fun k hk2 => by
    rw [List.getD_eq_getElem?_getD, List.getD_eq_getElem?_getD, hk k hk2 i ?_ ?_]
    · obtain rfl | rfl : k = 0 ∨ k = 1 := by omega
      · omega
      · omega
    · obtain rfl | rfl : k = 0 ∨ k = 1 := by omega
      · omega
      · omega
  rw [e 0 (by omega), e 1 (by omega)]

def u16s (l : List Nat) : List Value := l.map (fun n : Nat => Value.int .u16 (n : Int))
theorem u16s_len (l : List Nat) : (u16s l).length = l.length := by simp [u16s]
def appI (ts : Array TypeId) (ty : TypeId) (vs : Array Value) : Sem Value := Builtin.append_ ts ty vs
theorem append_I (ts : Array TypeId) (ty : TypeId) (vs : Array Value) : Builtin.append_ ts ty vs = appI ts ty vs := rfl
/-- One input behind a list. -/
theorem app_one (V : World) (v : Value) (l : List Nat) (p x : Nat) (hon : On V 33 1 v l.length (u16s l)) (hp : Blk V p 33 #[.int .u16 (x : Int)]) (hl : l.length ≤ 1000) :
    ∃ a2 c2 w2, (appI #[73, 73] 73 #[v, .slice (some ⟨p, 0, none⟩) 1 1]).run Try.prog V = .ok (.slice a2 (l.length + 1) c2) w2 ∧ On w2 33 1 (.slice a2 (l.length + 1) c2) (l ++ [x]).length (u16s (l ++ [x])) ∧ V.grownBy w2 v.ownBlock ∧ (∀ g, Value.ownBlock (.slice a2 (l.length + 1) c2) = some g → v.ownBlock = some g ∨ g = V.heap.size) := by
  obtain ⟨i0, hi, hz0, hz1, hz2⟩ := info_parts RingInput.info
  have hsrc : Src V (some ⟨p, 0, none⟩) 1 [.int .u16 (x : Int)] := by
    refine .inr ⟨_, rfl, fun j u hu => ?_⟩
    have hadd : (⟨p, 0, none⟩ : Addr).add j = ⟨p, j, none⟩ := by unfold Addr.add; split <;> simp_all
    rw [hadd, hp.cell j]
    simpa using hu
  obtain ⟨v1, w1, hrun, hon1, hg1, hv1⟩ := run_append_on (P := Try.prog) V 73 73 33 i0 _ 1 2 Try.underlying73 hi hz0 hz1 hz2 rfl (by omega)
    v l.length (u16s l) hon (some ⟨p, 0, none⟩) 1 1 [.int .u16 (x : Int)] rfl hsrc (by intro u hu; simp at hu; rw [hu]; rfl) (by simp only [maxLen]; omega) (by omega)
  obtain ⟨a2, c2, rfl, _, _⟩ := hon1.slice
  refine ⟨a2, c2, w1, hrun, ?_, hg1, fun g hg => ?_⟩
  · rw [List.length_append, List.length_singleton]
    have : u16s (l ++ [x]) = u16s l ++ [.int .u16 (x : Int)] := by simp [u16s]
    rw [this]; exact hon1
  · rcases hv1 with e | e
    · exact .inl (e ▸ hg)
    · rw [e] at hg; cases hg; exact .inr rfl

def Cfg.of (c : Cfg) (k : Nat) : Cfg := { c with lo := k }
/-- Two engines, what each sent, how much of it came. -/
structure LT (w wr : World) (cf : Cfg) (ga gb d e : Nat) (sa sb : SE) (xa xb : H) (v0 v1 : Value) (S0 S1 T0 T1 : List Nat) (m0 m1 n0 n1 K : Nat) : Prop where
  ea : sa.g = ga
  eb : sb.g = gb
  ha : HAt wr (cf.of 0) sa xa
  hb : HAt wr (cf.of 1) sb xb
  ja : J (cf.of 0) xa
  jb : J (cf.of 1) xb
  dis : ∀ k, fpE sa k → ¬ fpE sb k
  snt : Blk wr d 74 #[v0, v1]
  cam : Blk wr e 51 #[.int .i64 (m0 : Int), .int .i64 (m1 : Int)]
  l0 : On wr 33 1 v0 S0.length (u16s S0)
  l1 : On wr 33 1 v1 S1.length (u16s S1)
  q0 : ∀ k, v0.ownBlock = some k → ¬ fpE sa k ∧ ¬ fpE sb k ∧ ¬ v1.ownBlock = some k
  q1 : ∀ k, v1.ownBlock = some k → ¬ fpE sa k ∧ ¬ fpE sb k
  lo : Below w.heap.size w wr
  ba : ∀ k, fpE sa k → w.heap.size ≤ k
  bb : ∀ k, fpE sb k → w.heap.size ≤ k
  b0 : ∀ k, v0.ownBlock = some k → w.heap.size ≤ k
  b1 : ∀ k, v1.ownBlock = some k → w.heap.size ≤ k
  bd : w.heap.size ≤ d
  be : w.heap.size ≤ e
  ka0 : xa.ks 0 = List.replicate cf.de.toNat 0 ++ T0
  ka1 : xa.ks 1 = List.replicate cf.de.toNat 0 ++ T1.take n0
  kb1 : xb.ks 1 = List.replicate cf.de.toNat 0 ++ T1
  kb0 : xb.ks 0 = List.replicate cf.de.toNat 0 ++ T0.take n1
  mm : n0 ≤ T1.length ∧ n1 ≤ T0.length ∧ T0.length ≤ K ∧ T1.length ≤ K
  vv : (∀ v ∈ T0, v < 65536) ∧ ∀ v ∈ T1, v < 65536
  ua : xa.us.length ≤ K ∧ xa.ro ≤ K ∧ xa.re ≤ 200 * K
  ub : xb.us.length ≤ K ∧ xb.ro ≤ K ∧ xb.re ≤ 200 * K
section
variable {w wr W : World} {cf : Cfg} {ga gb d e : Nat} {sa sb : SE} {xa xb : H} {v0 v1 : Value} {S0 S1 T0 T1 : List Nat} {m0 m1 n0 n1 K : Nat}
theorem LT.below (h : LT w wr cf ga gb d e sa sb xa xb v0 v1 S0 S1 T0 T1 m0 m1 n0 n1 K) (hb : Below wr.heap.size wr W) : LT w W cf ga gb d e sa sb xa xb v0 v1 S0 S1 T0 T1 m0 m1 n0 n1 K :=
  { h with ha := h.ha.below hb, hb := h.hb.below hb, snt := h.snt.below hb h.snt.lt, cam := h.cam.below hb h.cam.lt, l0 := h.l0.below hb h.l0.lt, l1 := h.l1.below hb h.l1.lt, lo := h.lo.trans (hb.mono h.lo.size) }
theorem HAt.other {c : Cfg} {s : SE} {x : H} (h : HAt wr c s x) {k : Nat} {t : TypeId} {cs : Array Value} (hb : Blk wr k t cs)
    (ht : t ≠ 119 ∧ t ≠ 177 ∧ t ≠ 203 ∧ t ≠ 33 ∧ t ≠ 184 ∧ t ≠ 206 ∧ t ≠ 182) : ¬ fpE s k := by
  obtain ⟨p, C, hE, -⟩ := h
  exact hE.other hb ht
/-- The first engine has turned. -/
theorem LT.turnA {xa' : H} {T0' : List Nat} {n0' K' : Nat} (h : LT w wr cf ga gb d e sa sb xa xb v0 v1 S0 S1 T0 T1 m0 m1 n0 n1 K) (ht : HTurn wr (cf.of 0) sa xa' W) (j : J (cf.of 0) xa')
    (k0 : xa'.ks 0 = List.replicate cf.de.toNat 0 ++ T0') (k1 : xa'.ks 1 = List.replicate cf.de.toNat 0 ++ T1.take n0') (hp : T0'.take n1 = T0.take n1) (hm : n0' ≤ T1.length ∧ n1 ≤ T0'.length ∧ T0'.length ≤ K' ∧ T1.length ≤ K') (hv : ∀ v ∈ T0', v < 65536) (hu : xa'.us.length ≤ K' ∧ xa'.ro ≤ K' ∧ xa'.re ≤ 200 * K') (hK : K ≤ K') :
    ∃ sa', LT w W cf ga gb d e sa' sb xa' xb v0 v1 S0 S1 T0' T1 m0 m1 n0' n1 K' := by
  obtain ⟨sa', es, hA, hT, hF⟩ := ht.at
  have nd := h.ha.other h.snt (by decide)
  have ne := h.ha.other h.cam (by decide)
  have hsz := h.lo.size
  refine ⟨sa', ⟨es.1.trans h.ea, h.eb, hA, h.hb.touch hT (fun k hk hk2 => h.dis k hk2 hk), j, h.jb, fun k hk hk2 => ?_, h.snt.touch hT nd, h.cam.touch hT ne, h.l0.touch hT (fun k hk => (h.q0 k hk).1), h.l1.touch hT (fun k hk => (h.q1 k hk).1), fun k hk => ⟨fun hk2 => ?_, (h.q0 k hk).2⟩, fun k hk => ⟨fun hk2 => ?_, (h.q1 k hk).2⟩, h.lo.trans (hT.below hsz h.ba), fun k hk => ?_, h.bb, h.b0, h.b1, h.bd, h.be, k0, k1, h.kb1, by rw [h.kb0, hp], hm, ⟨hv, h.vv.2⟩, hu, ?_⟩⟩
  · rcases hF k hk with a | a
    · exact h.dis k a hk2
    · have := h.hb.lt k hk2; omega
  · rcases hF k hk2 with a | a
    · exact (h.q0 k hk).1 a
    · have := h.l0.lt k hk; omega
  · rcases hF k hk2 with a | a
    · exact (h.q1 k hk).1 a
    · have := h.l1.lt k hk; omega
  · rcases hF k hk with a | a
    · exact h.ba k a
    · omega
  · have := h.ub; omega
/-- The second engine has turned. -/
theorem LT.turnB {xb' : H} {T1' : List Nat} {n1' K' : Nat} (h : LT w wr cf ga gb d e sa sb xa xb v0 v1 S0 S1 T0 T1 m0 m1 n0 n1 K) (ht : HTurn wr (cf.of 1) sb xb' W) (j : J (cf.of 1) xb')
    (k1 : xb'.ks 1 = List.replicate cf.de.toNat 0 ++ T1') (k0 : xb'.ks 0 = List.replicate cf.de.toNat 0 ++ T0.take n1') (hp : T1'.take n0 = T1.take n0) (hm : n0 ≤ T1'.length ∧ n1' ≤ T0.length ∧ T0.length ≤ K' ∧ T1'.length ≤ K') (hv : ∀ v ∈ T1', v < 65536) (hu : xb'.us.length ≤ K' ∧ xb'.ro ≤ K' ∧ xb'.re ≤ 200 * K') (hK : K ≤ K') :
    ∃ sb', LT w W cf ga gb d e sa sb' xa xb' v0 v1 S0 S1 T0 T1' m0 m1 n0 n1' K' := by
  obtain ⟨sb', es, hB, hT, hF⟩ := ht.at
  have nd := h.hb.other h.snt (by decide)
  have ne := h.hb.other h.cam (by decide)
  have hsz := h.lo.size
  refine ⟨sb', ⟨h.ea, es.1.trans h.eb, h.ha.touch hT (fun k hk hk2 => h.dis k hk hk2), hB, h.ja, j, fun k hk hk2 => ?_, h.snt.touch hT nd, h.cam.touch hT ne, h.l0.touch hT (fun k hk => (h.q0 k hk).2.1), h.l1.touch hT (fun k hk => (h.q1 k hk).2), fun k hk => ⟨(h.q0 k hk).1, fun hk2 => ?_, (h.q0 k hk).2.2⟩, fun k hk => ⟨(h.q1 k hk).1, fun hk2 => ?_⟩, h.lo.trans (hT.below hsz h.bb), h.ba, fun k hk => ?_, h.b0, h.b1, h.bd, h.be, h.ka0, by rw [h.ka1, hp], k1, k0, hm, ⟨h.vv.1, hv⟩, ?_, hu⟩⟩
  · rcases hF k hk2 with a | a
    · exact h.dis k hk a
    · have := h.ha.lt k hk; omega
  · rcases hF k hk2 with a | a
    · exact (h.q0 k hk).2.1 a
    · have := h.l0.lt k hk; omega
  · rcases hF k hk2 with a | a
    · exact (h.q1 k hk).2 a
    · have := h.l1.lt k hk; omega
  · rcases hF k hk with a | a
    · exact h.bb k a
    · omega
  · have := h.ua; omega
end
end Go.Proofs.Ytckkpgopddnkiaa.Rl
namespace Go.Proofs.Ytckkpgopddnkiaa
open Go.RowKit Go.ChangeShapes Go.WideShapes Go.ChangeAt

theorem open_row {H : Type} {enc : TypeId × Value → H} {P : Program} {W : World} {base : Nat} {spare : Nat → Bool} {held : Bool} {t e : TypeId} {k : IntKind} {r : Reach} {b0 : Nat} {v : Value} {d : DataW H} {p : List MemPlace}
    (ht : P.underlying t = some (.slice e)) (he : P.underlying e = some (.int k)) (hc : P.cellsOf e = 1) (hv : Value.okWide P W r b0 t v) (h : DataW.Trod enc P W base spare held t v d p) :
    ∃ a len cap zs, v = .slice a len cap ∧ len ≤ cap ∧ cap ≤ maxLen ∧ Row k W a len zs ∧ ∀ n ∈ zs, (Lit.int k n).wf = true := by
  obtain ⟨a0, len0, cap0, rfl⟩ := okWide_slice ht hv
  obtain ⟨fuel, hf⟩ := h
  rcases open_ints ht he hc hf with ⟨hcs, _⟩ | ⟨x, l, c, zs, hcs, _, hl, hm, hz, _, hcell, hwz⟩
  · simp [Value.cells] at hcs
    obtain ⟨rfl, rfl, rfl⟩ := hcs
    exact ⟨none, 0, 0, [], rfl, Nat.le_refl _, by simp [maxLen], ⟨rfl, fun h => by omega⟩, fun n hn => by cases hn⟩
  · simp [Value.cells] at hcs
    obtain ⟨rfl, rfl, rfl⟩ := hcs
    have hzl : len0 ≤ zs.length := by rw [hz]; split <;> omega
    refine ⟨some x, len0, cap0, zs.take len0, rfl, hl, hm, ⟨by simp; omega, fun hp => ?_⟩, fun n hn => hwz n (List.mem_of_mem_take hn)⟩
    obtain ⟨b, off, spot⟩ := x
    have c0 := hcell 0 (by omega)
    have hspot : spot = none := by simpa [Addr.add] using World.cell?_spot c0
    subst hspot
    have hadd : ∀ j, (⟨b, off, none⟩ : Addr).add j = ⟨b, off + j, none⟩ := fun j => by unfold Addr.add; split <;> simp_all
    refine ⟨b, off, rfl, ?_, fun j hj => ?_⟩
    · have := World.block_lt_of_cell? W _ c0
      rw [hadd] at this
      exact this
    · have hcj := hcell j (by omega)
      rw [hadd] at hcj
      rw [hcj]
      simp [nth, List.getD, hj]
end Go.Proofs.Ytckkpgopddnkiaa
namespace Go.Proofs.Ytckkpgopddnkiaa.I2
open Go.RowKit Go.ChangeShapes Go.WideShapes Go.ChangeAt Go.Deep Go.Proofs.Ytckkpgopddnkiaa.Gm
set_option linter.all false

theorem list_of {α : Type} {P : Nat → α → Prop} : ∀ (n : Nat), (∀ i, i < n → ∃ x, P i x) → ∃ l : List α, l.length = n ∧ ∀ j x, l[j]? = some x → P j x
  | 0, _ => ⟨[], rfl, fun j x h => by simp at h⟩
  | n + 1, h => by
    obtain ⟨l, hl, hp⟩ := list_of n (fun i hi => h i (by omega))
    obtain ⟨x, hx⟩ := h n (by omega)
    refine ⟨l ++ [x], by simp [hl], fun j y hy => ?_⟩
    by_cases hj : j < n
    · rw [List.getElem?_append_left (by omega)] at hy; exact hp j y hy
    · rw [List.getElem?_append_right (by omega)] at hy
      have : j - l.length = 0 := by
        have := (List.getElem?_eq_some_iff.1 hy).1
        simp at this; omega
      rw [this] at hy
      have e : j = n := by omega
      subst e
      simpa using (by simpa using hy : x = y) ▸ hx
theorem bounds_u16 {n : Int} (h : (Lit.int .u16 n).wf = true) : 0 ≤ n ∧ n < 65536 := by
  simp [Lit.wf, IntKind.min, IntKind.max, IntKind.bits, IntKind.signed] at h
  omega
theorem bounds_u32 {n : Int} (h : (Lit.int .u32 n).wf = true) : 0 ≤ n ∧ n < 4294967296 := by
  simp [Lit.wf, IntKind.min, IntKind.max, IntKind.bits, IntKind.signed] at h
  omega
theorem inA_get {ls : List (Nat × Nat)} {j : Nat} {x : Nat × Nat} (h : ls[j]? = some x) : inA ls j 0 = x.1 ∧ inA ls j 1 = x.2 := by
  unfold inA
  rw [List.getD_eq_getElem?_getD, h]
  exact ⟨rfl, rfl⟩

theorem open_in2 {H : Type} {enc : TypeId × Value → H} {P : Program} {W : World} {base : Nat} {spare : Nat → Bool} {held : Bool} {t e e1 : TypeId} {r : Reach} {b0 : Nat} {v : Value} {d : DataW H} {p : List MemPlace}
    (ht : P.underlying t = some (.slice e)) (he : P.underlying e = some (.array 2 e1)) (he1 : P.underlying e1 = some (.int .u16)) (hc : P.cellsOf e = 2) (hc1 : P.cellsOf e1 = 1)
    (hv : Value.okWide P W r b0 t v) (h : DataW.Trod enc P W base spare held t v d p) :
    ∃ a cap, ∃ ls : List (Nat × Nat), v = .slice a ls.length cap ∧ InRow W a ls ∧ ls.length ≤ cap ∧ cap ≤ maxLen := by
  obtain ⟨a0, len0, cap0, rfl⟩ := okWide_slice ht hv
  obtain ⟨fuel, hf⟩ := h
  rcases open_slice ht hf with ⟨hcs, _⟩ | ⟨a, len, cap, m, n, D, Pl, hcs, hb, hl, hm, hmm, _, hi⟩
  · simp [Value.cells] at hcs
    obtain ⟨rfl, rfl, rfl⟩ := hcs
    exact ⟨none, 0, [], rfl, ⟨fun x hx => by simp at hx, fun h => by simp at h⟩, by simp, by simp [maxLen]⟩
  · simp [Value.cells] at hcs
    obtain ⟨rfl, rfl, rfl⟩ := hcs
    have hlm : len0 ≤ m := by rw [hmm]; split <;> omega
    have each : ∀ i, i < len0 → ∃ x : Nat × Nat, (W.cell? (a.add (i * 2 + 0)) = some (.int .u16 x.1) ∧ W.cell? (a.add (i * 2 + 1)) = some (.int .u16 x.2)) ∧ x.1 < 65536 ∧ x.2 < 65536 := by
      intro i hil
      obtain ⟨cs', hcc, ht'⟩ := hi i (by omega)
      rw [hc] at hcc
      obtain ⟨xs, m', _, _, hcl, hxl, hx⟩ := DataW.trod_array he ht'
      obtain ⟨_, hcl2, hat⟩ := World.cells?_some hcc
      have t0 := hx 0 (by omega)
      have t1 := hx 1 (by omega)
      rw [hc1] at t0 t1
      simp only [Nat.zero_mul, Nat.one_mul, List.drop_zero] at t0 t1
      have x0 : xs[0]? = some (xs[0]'(by omega)) := List.getElem?_eq_getElem (by omega)
      have x1 : xs[1]? = some (xs[1]'(by omega)) := List.getElem?_eq_getElem (by omega)
      obtain ⟨n0, e0, _, w0⟩ := DataW.trod_int he1 (t0.trans x0)
      obtain ⟨n1, e1, _, w1⟩ := DataW.trod_int he1 (t1.trans x1)
      have b0 := bounds_u16 w0
      have b1 := bounds_u16 w1
      have g0 := hat 0 (by omega)
      have g1 := hat 1 (by omega)
      have k0 : cs'[0]? = some (.int .u16 n0) := by
        have := congrArg (fun l => l[0]?) e0
        simpa [List.getElem?_take] using this
      have k1 : cs'[1]? = some (.int .u16 n1) := by
        have := congrArg (fun l => l[0]?) e1
        simpa [List.getElem?_take, List.getElem?_drop] using this
      obtain ⟨m0, rfl⟩ : ∃ m0 : Nat, n0 = m0 := ⟨n0.toNat, by omega⟩
      obtain ⟨m1, rfl⟩ : ∃ m1 : Nat, n1 = m1 := ⟨n1.toNat, by omega⟩
      refine ⟨(m0, m1), ⟨?_, ?_⟩, by omega, by omega⟩
      · rw [← Go.Deep.add_add, g0, k0]
      · rw [← Go.Deep.add_add, g1, k1]
    obtain ⟨ls, hol, hops⟩ := list_of len0 each
    subst hol
    refine ⟨some a, cap0, ls, rfl, ⟨fun x hx => ?_, fun hp => ?_⟩, hl, hm⟩
    · obtain ⟨i, hi⟩ := List.getElem?_of_mem hx
      exact (hops i x hi).2
    · obtain ⟨b, off, spot⟩ := a
      obtain ⟨x, hx⟩ : ∃ x, ls[0]? = some x := ⟨ls[0]'(by omega), by simp⟩
      have c0 := (hops 0 x hx).1.1
      have hspot : spot = none := by simpa [Addr.add] using World.cell?_spot c0
      subst hspot
      have hadd : ∀ j, (⟨b, off, none⟩ : Addr).add j = ⟨b, off + j, none⟩ := fun j => by unfold Addr.add; split <;> simp_all
      refine ⟨b, off, rfl, ?_, fun j hj => ?_⟩
      · have := World.block_lt_of_cell? W _ c0
        rw [hadd] at this
        exact this
      · have hg : ls[j]? = some (ls[j]'hj) := List.getElem?_eq_getElem hj
        have := (hops j _ hg).1
        simp only [hadd, ← Nat.add_assoc, Nat.add_zero] at this
        rw [(inA_get hg).1, (inA_get hg).2]
        exact this
end Go.Proofs.Ytckkpgopddnkiaa.I2
namespace Go.Proofs.Ytckkpgopddnkiaa.Gm
open Go.RowKit Go.Sort Go.Proofs.Ytckkpgopddnkiaa.Num
set_option linter.all false

theorem wpList_store_midw {ops : Array Oper} {rest : List Oper} {op : Oper} {a : Act} {w : World} {Q : Exit → Act → World → Prop} (hgd : op.guard = none) (ty : TypeId) (x y : Operand) (ho : op.op = .store ty x y)
    (b o : Nat) (cells : Array Value) (hx : a.eval x = .pointer (some ⟨b, o, none⟩)) (hy : a.eval y = .agg cells)
    (ht : w.there b o cells.size) (hi : (Try.prog.info? ty).map (·.size) = some cells.size) (h1 : cells.all (·.oneCell') = true) (w' : World) (hw : w.setCells b o cells.toList = w')
    (h : wpList Try.prog ops Q rest (a.put op.dst undef) w') : wpList Try.prog ops Q (op :: rest) a w :=
  wpList_store_mid hgd ty x y ho b o cells hx hy ht hi h1 (by rw [hw]; exact h)

set_option maxRecDepth 100000 in
set_option maxHeartbeats 4000000 in
theorem rnew_any (w : World) (seed : Int) (h0 : 0 ≤ seed) (h1 : seed < 4294967296) :
    Calls Try.prog 36 #[.int .u32 seed] w fun e w' => e = .returned (stV (newF seed)) ∧ Below w.heap.size w w' := by
  obtain ⟨W1, hW1⟩ : ∃ W1, W1 = (w.alloc (.cells Try.zeroCells53 53)).alloc (.cells Try.zeroCells53 53) := ⟨_, rfl⟩
  have hR : Blk W1 w.heap.size 53 Try.zeroCells53 := by rw [hW1]; exact (Blk.new _ _ _).alloc _
  have hS : SB W1 (w.heap.size + 1) 53 zF := by
    have : Blk W1 (w.heap.size + 1) 53 Try.zeroCells53 := by
      rw [hW1]
      have := Blk.new (w.alloc (.cells Try.zeroCells53 53)) 53 Try.zeroCells53
      simpa using this
    unfold SB
    rw [stA_zero]
    exact this
  have hB : Below w.heap.size w W1 := by rw [hW1]; exact ((Below.refl _ w).alloc (Nat.le_refl _) _).alloc (by simp) _
  have c1 : W1.cell? ⟨w.heap.size + 1, 1, none⟩ = some (.int .u32 0) := hS.seed
  have f1 := hS.fr 1
  have S2 := hS.set_ (j := 1) (by omega) seed
  rw [cv_seed] at S2
  have R2 := Blk.far hR (p := ⟨w.heap.size + 1, 1, none⟩) (by simp) (.int .u32 seed)
  have B2 := hB.setCell (p := ⟨w.heap.size + 1, 1, none⟩) (by simp) (.int .u32 seed)
  have pB0 := Lib.hid (fun W => rborn_any W 0 (by omega))
  have pB1 := Lib.hid (fun W => rborn_any W 1 (by omega))
  have HE := Lib.hid (show newF seed = setB (setB (put zF 1 seed) (2 + 0 * 7) (bornB 0)) (2 + 1 * 7) (bornB 1) from rfl)
  generalize bornB 0 = b0 at *
  generalize bornB 1 = b1 at *
  obtain ⟨v0, hv0', hw0⟩ : ∃ v0, v0 = (bodL b0).toArray ∧ bodV b0 = .agg v0 := ⟨_, rfl, rfl⟩
  obtain ⟨v1, hv1', hw1⟩ : ∃ v1, v1 = (bodL b1).toArray ∧ bodV b1 = .agg v1 := ⟨_, rfl, rfl⟩
  rw [hw0] at pB0
  rw [hw1] at pB1
  have Hv0 := Lib.hid hv0'
  have Hv1 := Lib.hid hv1'
  clear hv0' hv1' hw0 hw1
  have HS := Lib.hid S2
  have HR := Lib.hid R2
  have HB := Lib.hid B2
  clear hS hR hB S2 R2 B2
  go_enter Try.func36, Try.ntmps36
  go_upto_region 2 with fail
  rw [← hW1]
  clear hW1
  go_upto_region 3 with fail
  clear c1 f1
  generalize W1.setCell ⟨w.heap.size + 1, 1, none⟩ (.int .u32 seed) = W2 at *
  go_wp2_with fail
  refine (pB0.out _).mono ?_
  rintro e w3 ⟨rfl, b3⟩
  have S3 := HS.out.below b3 HS.out.lt
  have R3 := HR.out.below b3 HR.out.lt
  have B3 := HB.out.trans (b3.mono HB.out.size)
  go_wp2_with fail
  refine (pB1.out _).mono ?_
  rintro e w4 ⟨rfl, b4⟩
  have S4 := S3.below b4 S3.lt
  have R4 := R3.below b4 R3.lt
  have B4 := B3.trans (b4.mono B3.size)
  clear HS HR HB S3 R3 B3 b3 b4 pB0 pB1
  have hv0 := Hv0.out
  have hv1 := Hv1.out
  obtain ⟨w5, hw5⟩ : ∃ w5, w4.setCells (w.heap.size + 1) 2 (bodL b0) = w5 := ⟨_, rfl⟩
  obtain ⟨w6, hw6⟩ : ∃ w6, w5.setCells (w.heap.size + 1) 9 (bodL b1) = w6 := ⟨_, rfl⟩
  have ht : w4.there (w.heap.size + 1) 2 v0.size := by rw [hv0]; exact S4.there (o := 2) (n := 7) (by omega)
  have S5 : SB w5 (w.heap.size + 1) 53 (setB (put zF 1 seed) (2 + 0 * 7) b0) := by rw [← hw5]; exact S4.setBody (i := 0) (by omega) b0
  have T5 : Touch (fun k => k = w.heap.size + 1) w4 w5 := by rw [← hw5]; exact touch_setCells (S := fun k => k = w.heap.size + 1) (Touch.refl _ _) _ (.inl rfl) _ _
  have ht2 : w5.there (w.heap.size + 1) 9 v1.size := by rw [hv1]; exact S5.there (o := 9) (n := 7) (by omega)
  have S6 : SB w6 (w.heap.size + 1) 53 (setB (setB (put zF 1 seed) (2 + 0 * 7) b0) (2 + 1 * 7) b1) := by rw [← hw6]; exact S5.setBody (i := 1) (by omega) b1
  have T6 : Touch (fun k => k = w.heap.size + 1) w4 w6 := by rw [← hw6]; exact touch_setCells (S := fun k => k = w.heap.size + 1) T5 _ (.inl rfl) _ _
  have hw5' : RowKit.Hid (w4.setCells (w.heap.size + 1) 2 v0.toList = w5) := Lib.hid (by rw [hv0]; exact hw5)
  have hw6' : RowKit.Hid (w5.setCells (w.heap.size + 1) 9 v1.toList = w6) := Lib.hid (by rw [hv1]; exact hw6)
  have hi0 : (Try.prog.info? 46).map (·.size) = some v0.size := by rw [hv0]; exact infoB
  have hi1 : (Try.prog.info? 46).map (·.size) = some v1.size := by rw [hv1]; exact infoB
  have ho0 : v0.all (·.oneCell') = true := by rw [hv0]; exact bodL_one _
  have ho1 : v1.all (·.oneCell') = true := by rw [hv1]; exact bodL_one _
  have R6 := R4.touch T6 (by omega)
  have B6 := B4.trans (T6.below B4.size (fun k hk => by omega))
  rw [← HE.out] at S6
  clear S4 R4 B4 S5 T5 T6 hw5 hw6 hv0 hv1 Hv0 Hv1
  have Hi0 := Lib.hid hi0
  have Hi1 := Lib.hid hi1
  have Ho0 := Lib.hid ho0
  have Ho1 := Lib.hid ho1
  have Ht0 := Lib.hid ht
  have Ht1 := Lib.hid ht2
  clear hi0 hi1 ho0 ho1 ht ht2
  go_upto_region 4 with (first
    | (refine wpList_store_midw (w := w4) (by rfl) 46 _ _ (by rfl) (w.heap.size + 1) 2 v0 (by rfl) (by rfl) Ht0.out Hi0.out Ho0.out w5 hw5'.out ?_)
    | (refine wpList_store_midw (w := w5) (by rfl) 46 _ _ (by rfl) (w.heap.size + 1) 9 v1 (by rfl) (by rfl) Ht1.out Hi1.out Ho1.out w6 hw6'.out ?_)
    | fail)
  obtain ⟨C9, LC9⟩ := let_of (newF seed)
  have hS9 := LC9.blk S6
  have hzs : Try.zeroCells53.size = C9.size := by rw [LC9.size, ← stA_zero]; exact stA_size _
  have hif := LC9.info
  have hone := LC9.one
  have HC9 := Lib.hid LC9.eq
  clear LC9 S6
  go_wp2_with (first | (refine wpList_load_blk (by rfl) 53 _ (by rfl) (w.heap.size + 1) (by rfl) _ C9 _ hS9 Try.underlying53 (by rfl) hif ?_) | (refine wpList_store_blk (by rfl) 53 _ _ (by rfl) w.heap.size C9 (by rfl) (by rfl) _ _ R6 hif hzs hone ?_; intro W6 hd6 ht6))
  refine bodyPost_ret (v := .agg C9) (results_blk Try.results36 _ _ w.heap.size _ _ _ (by rfl) hd6 Try.underlying53 (by rfl) hif) rfl ⟨by rw [HC9.out]; rfl, ?_⟩
  exact B6.trans (ht6.below B6.size (fun k hk => by omega))
end Go.Proofs.Ytckkpgopddnkiaa.Gm
namespace Go.Proofs.Ytckkpgopddnkiaa.Gm
open Go.RowKit Go.Sort Go.Proofs.Ytckkpgopddnkiaa.Num
set_option linter.all false
attribute [local go_sem ↓] exec_st29

/-- 'b := ..' of a body: a block laid and stored whole. -/
theorem alloc_body (w : World) (L : List Value) (b : Body) (hL : L = bodL b) : ∃ W3, (storeCells ⟨w.heap.size, 0, none⟩ L).run Try.prog (w.alloc (.cells #[.int .i64 0, .int .i64 0, .int .i64 0, .int .i64 0, .int .i64 0, .int .i64 0, .int .i64 0] 46)) = .ok () W3 ∧ MB W3 w.heap.size b ∧ Below w.heap.size w W3 ∧ w.heap.size + 1 = W3.heap.size := by
  have hX : Blk (w.alloc (.cells #[.int .i64 0, .int .i64 0, .int .i64 0, .int .i64 0, .int .i64 0, .int .i64 0, .int .i64 0] 46)) w.heap.size 46 #[.int .i64 0, .int .i64 0, .int .i64 0, .int .i64 0, .int .i64 0, .int .i64 0, .int .i64 0] := Blk.new _ _ _
  subst hL
  have := run_storeCells_from (P := Try.prog) w.heap.size 46 (bodL b) 0 _ _ hX (by simp [bodL]) (fun v hv => (Array.all_eq_true_iff_forall_mem.1 (bodL_one b)) v (by simpa using hv))
  refine ⟨_, this, ?_, ?_, by simp⟩
  · exact hX.setRow _
  · exact ((Below.refl _ w).alloc (Nat.le_refl _) _).trans ((touch_setRow _ w.heap.size _).below (by simp) (fun k hk => by omega))

set_option maxRecDepth 100000 in
set_option maxHeartbeats 4000000 in
theorem rfire_any (w : World) (C : Array Value) (f : F) (i n : Nat) (LC : Let C f) (hi : i < 2) (hn : n < 65536) (hb : BodyOk (bod f (2 + i * 7))) :
    Calls Try.prog 76 #[.agg C, .int .i64 i, .int .u16 n] w fun e w' => ∃ C', Let C' (fireF f i n) ∧ e = .returned (.agg C') ∧ Below w.heap.size w w' := by
  obtain ⟨W1, hW1⟩ : ∃ W1, W1 = (w.alloc (.cells C 53)).alloc (.cells Try.zeroCells53 53) := ⟨_, rfl⟩
  have hS : SB W1 w.heap.size 53 f := by
    rw [hW1]
    exact (LC.sb (Blk.new w 53 C)).alloc _
  have hR : Blk W1 (w.heap.size + 1) 53 Try.zeroCells53 := by
    rw [hW1]
    have := Blk.new (w.alloc (.cells C 53)) 53 Try.zeroCells53
    simpa using this
  have hB : Below w.heap.size w W1 := by rw [hW1]; exact ((Below.refl _ w).alloc (Nat.le_refl _) _).alloc (by simp) _
  have hz : w.heap.size + 2 = W1.heap.size := by rw [hW1]; simp
  have pH := Lib.hid (fun W => has_any W n 16 hn (by omega) (by omega))
  have hc0 := hb.c0
  have hc1 := hb.c1
  have hy0 := hb.y0
  have hy1 := hb.y1
  have hfc : -1 ≤ (bod f (2 + i * 7)).facing ∧ (bod f (2 + i * 7)).facing ≤ 1 := by rcases hb.fc with e | e <;> omega
  have HF := Lib.hid (show fireF f i n = if 0 < (bod f (2 + i * 7)).cool then put f (2 + i * 7 + 5) ((bod f (2 + i * 7)).cool - 1)
    else if n / 16 % 2 = 1 ∧ freeK f < 8 then put (setS f (16 + freeK f * 6) (shotOf (bod f (2 + i * 7)) i)) (2 + i * 7 + 5) 15 else f from rfl)
  have hrB := hS.bodR hi
  have i1 : (0 : Int) ≤ (i : Int) := by omega
  have i2 : (i : Int) < 2 := by omega
  obtain ⟨b, hbb⟩ : ∃ b, bod f (2 + i * 7) = b := ⟨_, rfl⟩
  rw [hbb] at hc0 hc1 hy0 hy1 HF hfc hrB
  obtain ⟨Lb, hLb⟩ : ∃ Lb, Lb = bodL b := ⟨_, rfl⟩
  rw [← hLb] at hrB
  have hLs : Lb.length = 7 := by rw [hLb]; rfl
  have hiB : (Try.prog.info? 46).map (·.size) = some Lb.length := by rw [hLs]; exact infoB
  have HA := Lib.hid (fun W => alloc_body W Lb b hLb)
  have HS := Lib.hid hS
  have HR := Lib.hid hR
  have HB := Lib.hid hB
  have HI := Lib.hid hi
  have HZ := Lib.hid hz
  have HLC := Lib.hid LC
  clear hS hb hi hR hB hbb hLb hz LC
  go_enter Try.func76, Try.ntmps76
  go_upto_region 1 with fail
  rw [← hW1]
  clear hW1
  obtain ⟨W2, hrun, M2, b2, hz2⟩ := HA.out W1
  clear HA
  go_upto_region 2 with (refine wpList_load_mid (by rfl) 46 _ (by rfl) w.heap.size (2 + i * 7) (by rfl) Lb _ hrB Try.underlying46 (by rfl) hiB ?_)
  clear hrun hrB hiB hLs
  have hz := HZ.out
  have S2 := HS.out.below b2 HS.out.lt
  have R2 := HR.out.below b2 HR.out.lt
  have B2 := HB.out.trans (b2.mono (by omega))
  clear HS HR HB b2
  obtain ⟨gb, hgb⟩ : ∃ gb, gb = W1.heap.size := ⟨_, rfl⟩
  rw [← hgb] at M2 ⊢
  have hg1 : w.heap.size + 2 = gb := by omega
  clear hz hz2 hgb HZ
  have HS := Lib.hid S2
  have HR := Lib.hid R2
  have HB := Lib.hid B2
  have HM := Lib.hid M2
  have HG := Lib.hid hg1
  have c5 := M2.c5
  clear S2 R2 B2 M2 hg1
  by_cases h : 0 < b.cool
  · have HF2 := HF.out
    rw [if_pos h] at HF2
    have HF3 := Lib.hid HF2
    clear HF2 HF
    have S3 := HS.out.setInt (j := 2 + i * 7 + 5) (by have := HI.out; omega) (by omega) (by have := HI.out; omega) (b.cool - 1)
    have R3 := Blk.far HR.out (p := ⟨w.heap.size, 2 + i * 7 + 5, none⟩) (by simp) (.int .i64 (b.cool - 1))
    have B3 := HB.out.setCell (p := ⟨w.heap.size, 2 + i * 7 + 5, none⟩) (by simp) (.int .i64 (b.cool - 1))
    have f5 := HS.out.fr (2 + i * 7 + 5)
    have k5 := HS.out.int (j := 2 + i * 7 + 5) (by have := HI.out; omega) (by omega) (by have := HI.out; omega)
    have H3 := Lib.hid S3
    have HR3 := Lib.hid R3
    have HB3 := Lib.hid B3
    clear S3 R3 B3
    go_upto_region 4 with fail
    clear f5 k5 c5
    have S3 := H3.out
    rw [← HF3.out] at S3
    obtain ⟨C9, LC9⟩ := let_of (fireF f i n)
    have hS9 := LC9.blk S3
    have R9 := HR3.out
    have B9 := HB3.out
    have hzs : Try.zeroCells53.size = C9.size := by rw [LC9.size, ← stA_zero]; exact stA_size _
    have hif := LC9.info
    have hone := LC9.one
    have HC9 := Lib.hid LC9
    clear LC9
    go_wp2_with (first | (refine wpList_load_blk (by rfl) 53 _ (by rfl) w.heap.size (by rfl) _ C9 _ hS9 Try.underlying53 (by rfl) hif ?_) | (refine wpList_store_blk (by rfl) 53 _ _ (by rfl) (w.heap.size + 1) C9 (by rfl) (by rfl) _ _ R9 hif hzs hone ?_; intro W6 hd6 ht6) | fail)
    refine bodyPost_ret (v := .agg C9) (results_blk Try.results76 _ _ (w.heap.size + 1) _ _ _ (by rfl) hd6 Try.underlying53 (by rfl) hif) rfl ⟨C9, HC9.out, rfl, ?_⟩
    exact B9.trans (ht6.below B9.size (fun k hk => by omega))
  · have HF2 := HF.out
    rw [if_neg h] at HF2
    have HF3 := Lib.hid HF2
    clear HF2 HF
    go_upto_region 6 with fail
    go_loopw [8] (fun kv wr => ∃ k : Nat, k ≤ 8 ∧ kv = .int .i64 k ∧ (∀ j, j < k → f (16 + j * 6) ≠ 0) ∧ wr = W2) (fun kv _ => 8 - (intOf kv).toNat)
    case atStart => exact ⟨0, by omega, rfl, fun j hj => by omega, by first | trivial | rfl⟩
    case round =>
      obtain ⟨k, hk, rfl, hall, rfl⟩ := hrel
      by_cases hlt : k < 8
      · have k1 : (0 : Int) ≤ (k : Int) := by omega
        have k2 : (k : Int) < 8 := by omega
        have con := HS.out.on hlt
        by_cases hon : f (16 + k * 6) = 0
        · rw [onB_no hon] at con
          have hfree : freeK f = k := freeK_eq f k hk hall (fun _ => hon)
          by_cases hbt : n / 16 % 2 = 1
          · have e16 : decide (n / 16 % 2 = 1) = true := by rw [hbt]; rfl
            rw [e16] at pH
            have HF4 := HF3.out
            rw [hfree, if_pos ⟨hbt, hlt⟩] at HF4
            have HF5 := Lib.hid HF4
            have HK := Lib.hid hlt
            have hk8 : ((k : Int) == 8) = false := by simp; omega
            clear HF4 HF3 hfree hon hall hlt e16 hbt
            go_upto_region 8 with fail
            go_wp2_with fail
            refine (pH.out _).mono ?_
            rintro e w2 ⟨rfl, rfl⟩
            clear hk8 con
            have HSH := Lib.hid (show shotOf b i = ⟨1, b.x, hold (b.y + 65536), clampV b.facing (-1) 1 * 393216, i, 60⟩ from rfl)
            have hcl := clampV_in b.facing (a := -1) (b := 1) (by omega)
            have hcf : clampV b.facing (-1) 1 = b.facing := by unfold clampV; omega
            have m1 : (if b.facing < -1 then -1 else b.facing) = b.facing := by split <;> omega
            have m2 : (if 1 < b.facing then 1 else b.facing) = b.facing := by split <;> omega
            have c6 := HM.out.c6
            rw [hcf] at HSH
            clear hcl hcf c5
            go_upto_region 11 with fail
            clear c6 m1 m2
            have q1 : IntKind.i64.wrap (b.facing * 6) = b.facing * 6 := IntWalk.i64_in _ (by omega)
            have q2 : IntKind.i64.wrap (b.facing * 6 * 65536) = b.facing * 6 * 65536 := IntWalk.i64_in _ (by omega)
            have c0 := HM.out.c0
            have c1 := HM.out.c1
            have pA := Lib.hid (fun W => Num.add_any W b.y 65536 (by omega) (by omega) (by omega) (by omega))
            generalize hold (b.y + 65536) = yv at *
            have hs6 : ∀ W, RowKit.Below wr.heap.size wr W → ∃ W', storeR Try.prog 49 (.pointer (some ⟨w.heap.size, 16 + k * 6, none⟩)) (.agg #[.bool true, .int .i64 b.x, .int .i64 yv, .int .i64 (b.facing * 6 * 65536), .int .i64 i, .int .i64 60]) W = .ok .skip W' ∧ SB W' w.heap.size 53 (setS f (16 + k * 6) (shotOf b i)) ∧ MB W' gb b ∧ Blk W' (w.heap.size + 1) 53 Try.zeroCells53 ∧ RowKit.Below w.heap.size w W' := fun W hW => by
              have SW := HS.out.below hW HS.out.lt
              have T : Touch (fun k => k = w.heap.size) W (W.setCells w.heap.size (16 + k * 6) (shoL (shotOf b i))) := touch_setCells (S := fun k => k = w.heap.size) (Touch.refl _ _) _ (.inl rfl) _ _
              have BW := HB.out.trans (hW.mono HB.out.size)
              have hgg := HG.out
              refine ⟨W.setCells w.heap.size (16 + k * 6) (shoL (shotOf b i)), storeR_mid (SW.there (by have := HK.out; simp; omega)) infoS (by simp [Value.oneCell']) ?_, SW.setShot HK.out _, Blk.touch (HM.out.below hW (Blk.lt HM.out)) T (by omega), (HR.out.below hW HR.out.lt).touch T (by omega), BW.trans (T.below BW.size (fun k hk => by omega))⟩
              rw [HSH.out, show b.facing * 393216 = b.facing * 6 * 65536 by omega]
              rfl
            have HT := Lib.hid hs6
            clear hs6
            go_region_held3 (fun w' => w'.cell? ⟨gb, 0, none⟩ = some (.int .i64 b.x) ∧ w'.cell? ⟨gb, 1, none⟩ = some (.int .i64 b.y)) (first | exact ⟨c0, c1⟩ | exact ⟨k0, k1⟩ | exact ⟨l0, l1⟩)
              (first
                | (go_at_call 128; refine (pA.out _).mono ?_; rintro e w3 ⟨rfl, b3⟩; have b3' : RowKit.Below wr.heap.size wr w3 := ⟨b3.os, b3.tape, b3.output, b3.size, b3.block⟩; obtain ⟨w4, hst, S4, M4, R4, B4⟩ := HT.out _ b3'; have l0 := M4.c0; have l1 := M4.c1; have M3 := HM.out.below b3' (Blk.lt HM.out); have k0 := M3.c0; have k1 := M3.c1))
            have hi3 := HI.out
            have z5 := S4.int (j := 2 + i * 7 + 5) (by omega) (by omega) (by omega)
            have f5 := S4.fr (2 + i * 7 + 5)
            have S5 := S4.setInt (j := 2 + i * 7 + 5) (by omega) (by omega) (by omega) 15
            have R5 := Blk.far R4 (p := ⟨w.heap.size, 2 + i * 7 + 5, none⟩) (by simp) (.int .i64 15)
            have B5 := B4.setCell (p := ⟨w.heap.size, 2 + i * 7 + 5, none⟩) (by simp) (.int .i64 15)
            rw [← HF5.out] at S5
            have H5 := Lib.hid S5
            have HR5 := Lib.hid R5
            have HB5 := Lib.hid B5
            clear hst S4 M4 R4 B4 l0 l1 M3 k0 k1 HT pA c0 c1 q1 q2 b3 b3' hi3 S5 R5 B5 pH
            go_upto_region 13 with fail
            clear z5 f5
            obtain ⟨C9, LC9⟩ := let_of (fireF f i n)
            have hS9 := LC9.blk H5.out
            have R9 := HR5.out
            have B9 := HB5.out
            have hzs : Try.zeroCells53.size = C9.size := by rw [LC9.size, ← stA_zero]; exact stA_size _
            have hif := LC9.info
            have hone := LC9.one
            have HC9 := Lib.hid LC9
            clear LC9
            go_wp2_with (first | (refine wpList_load_blk (by rfl) 53 _ (by rfl) w.heap.size (by rfl) _ C9 _ hS9 Try.underlying53 (by rfl) hif ?_) | (refine wpList_store_blk (by rfl) 53 _ _ (by rfl) (w.heap.size + 1) C9 (by rfl) (by rfl) _ _ R9 hif hzs hone ?_; intro W6 hd6 ht6) | fail)
            refine bodyPost_ret (v := .agg C9) (results_blk Try.results76 _ _ (w.heap.size + 1) _ _ _ (by rfl) hd6 Try.underlying53 (by rfl) hif) rfl ⟨C9, HC9.out, rfl, ?_⟩
            exact B9.trans (ht6.below B9.size (fun k hk => by omega))
          · have e16 : decide (n / 16 % 2 = 1) = false := by simpa using hbt
            rw [e16] at pH
            have HF4 := HF3.out
            rw [if_neg (fun h => hbt h.1)] at HF4
            have HF5 := Lib.hid HF4
            clear HF4 HF3 hfree hon hall e16 hbt
            go_upto_region 8 with fail
            go_wp2_with fail
            refine (pH.out _).mono ?_
            rintro e w2 ⟨rfl, rfl⟩
            have S9 := HS.out
            rw [← HF5.out] at S9
            go_upto_region 9 with fail
            obtain ⟨C9, LC9⟩ := let_of (fireF f i n)
            have hS9 := LC9.blk S9
            have R9 := HR.out
            have B9 := HB.out
            have hzs : Try.zeroCells53.size = C9.size := by rw [LC9.size, ← stA_zero]; exact stA_size _
            have hif := LC9.info
            have hone := LC9.one
            have HC9 := Lib.hid LC9
            clear LC9
            go_wp2_with (first | (refine wpList_load_blk (by rfl) 53 _ (by rfl) w.heap.size (by rfl) _ C9 _ hS9 Try.underlying53 (by rfl) hif ?_) | (refine wpList_store_blk (by rfl) 53 _ _ (by rfl) (w.heap.size + 1) C9 (by rfl) (by rfl) _ _ R9 hif hzs hone ?_; intro W6 hd6 ht6) | fail)
            refine bodyPost_ret (v := .agg C9) (results_blk Try.results76 _ _ (w.heap.size + 1) _ _ _ (by rfl) hd6 Try.underlying53 (by rfl) hif) rfl ⟨C9, HC9.out, rfl, ?_⟩
            exact B9.trans (ht6.below B9.size (fun k hk => by omega))
        · rw [onB_yes hon] at con
          have HALL := Lib.hid (show ∀ j, j < k + 1 → f (16 + j * 6) ≠ 0 from fun j hj => by
            by_cases e : j = k
            · subst e; exact hon
            · exact hall j (by omega))
          clear hall hon
          go_wp2_with fail
          go_roundw
          case rel => exact ⟨k + 1, by omega, by go_num, HALL.out, by first | trivial | rfl⟩
          case measure => simp [intOf]; omega
      · obtain rfl : k = 8 := by omega
        have HF4 := HF3.out
        rw [if_neg (fun h => by have := freeK_free f h.2; exact hall _ h.2 this)] at HF4
        have HF5 := Lib.hid HF4
        clear HF4 hall HF3
        have S9 := HS.out
        rw [← HF5.out] at S9
        by_cases hbt : n / 16 % 2 = 1
        · have e16 : decide (n / 16 % 2 = 1) = true := by rw [hbt]; rfl
          rw [e16] at pH
          clear e16 hbt hlt
          go_upto_region 8 with fail
          go_wp2_with fail
          refine (pH.out _).mono ?_
          rintro e w2 ⟨rfl, rfl⟩
          go_upto_region 9 with fail
          obtain ⟨C9, LC9⟩ := let_of (fireF f i n)
          have hS9 := LC9.blk S9
          have R9 := HR.out
          have B9 := HB.out
          have hzs : Try.zeroCells53.size = C9.size := by rw [LC9.size, ← stA_zero]; exact stA_size _
          have hif := LC9.info
          have hone := LC9.one
          have HC9 := Lib.hid LC9
          clear LC9
          go_wp2_with (first | (refine wpList_load_blk (by rfl) 53 _ (by rfl) w.heap.size (by rfl) _ C9 _ hS9 Try.underlying53 (by rfl) hif ?_) | (refine wpList_store_blk (by rfl) 53 _ _ (by rfl) (w.heap.size + 1) C9 (by rfl) (by rfl) _ _ R9 hif hzs hone ?_; intro W6 hd6 ht6) | fail)
          refine bodyPost_ret (v := .agg C9) (results_blk Try.results76 _ _ (w.heap.size + 1) _ _ _ (by rfl) hd6 Try.underlying53 (by rfl) hif) rfl ⟨C9, HC9.out, rfl, ?_⟩
          exact B9.trans (ht6.below B9.size (fun k hk => by omega))
        · have e16 : decide (n / 16 % 2 = 1) = false := by simpa using hbt
          rw [e16] at pH
          clear e16 hbt hlt
          go_upto_region 8 with fail
          go_wp2_with fail
          refine (pH.out _).mono ?_
          rintro e w2 ⟨rfl, rfl⟩
          go_upto_region 9 with fail
          obtain ⟨C9, LC9⟩ := let_of (fireF f i n)
          have hS9 := LC9.blk S9
          have R9 := HR.out
          have B9 := HB.out
          have hzs : Try.zeroCells53.size = C9.size := by rw [LC9.size, ← stA_zero]; exact stA_size _
          have hif := LC9.info
          have hone := LC9.one
          have HC9 := Lib.hid LC9
          clear LC9
          go_wp2_with (first | (refine wpList_load_blk (by rfl) 53 _ (by rfl) w.heap.size (by rfl) _ C9 _ hS9 Try.underlying53 (by rfl) hif ?_) | (refine wpList_store_blk (by rfl) 53 _ _ (by rfl) (w.heap.size + 1) C9 (by rfl) (by rfl) _ _ R9 hif hzs hone ?_; intro W6 hd6 ht6) | fail)
          refine bodyPost_ret (v := .agg C9) (results_blk Try.results76 _ _ (w.heap.size + 1) _ _ _ (by rfl) hd6 Try.underlying53 (by rfl) hif) rfl ⟨C9, HC9.out, rfl, ?_⟩
          exact B9.trans (ht6.below B9.size (fun k hk => by omega))
end Go.Proofs.Ytckkpgopddnkiaa.Gm
