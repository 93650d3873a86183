/-
  Texts joined: OpenI2, SpC. No condition.
-/
import Derived.Test.YtlhoffhagfhbcaaBDiff11
import Derived.ProofKit
import Derived.OpenShut
import Derived.Deep.Strs
import Derived.Deep.Slices
import Derived.Deep.Fields
import Derived.ChangeSame
namespace Go.Proofs.Ytlhoffhagfhbcaa.I2
open Go.RowKit Go.ChangeShapes Go.WideShapes Go.ChangeAt Go.Deep Go.Proofs.Ytlhoffhagfhbcaa.Gm
set_option linter.all false

theorem list_of {α : Type} {P : Nat → α → Prop} : ∀ (n : Nat), (∀ i, i < n → ∃ x, P i x) → ∃ l : List α, l.length = n ∧ ∀ j x, l[j]? = some x → P j x
  | 0, _ => ⟨[], rfl, fun j x h => by simp at h⟩
  | n + 1, h => by
    obtain ⟨l, hl, hp⟩ := list_of n (fun i hi => h i (by omega))
    obtain ⟨x, hx⟩ := h n (by omega)
    refine ⟨l ++ [x], by simp [hl], fun j y hy => ?_⟩
    by_cases hj : j < n
    · rw [List.getElem?_append_left (by omega)] at hy; exact hp j y hy
    · rw [List.getElem?_append_right (by omega)] at hy
      have : j - l.length = 0 := by
        have := (List.getElem?_eq_some_iff.1 hy).1
        simp at this; omega
      rw [this] at hy
      have e : j = n := by omega
      subst e
      simpa using (by simpa using hy : x = y) ▸ hx
theorem bounds_u16 {n : Int} (h : (Lit.int .u16 n).wf = true) : 0 ≤ n ∧ n < 65536 := by
  simp [Lit.wf, IntKind.min, IntKind.max, IntKind.bits, IntKind.signed] at h
  omega
theorem bounds_u32 {n : Int} (h : (Lit.int .u32 n).wf = true) : 0 ≤ n ∧ n < 4294967296 := by
  simp [Lit.wf, IntKind.min, IntKind.max, IntKind.bits, IntKind.signed] at h
  omega
theorem inA_get {ls : List (Nat × Nat)} {j : Nat} {x : Nat × Nat} (h : ls[j]? = some x) : inA ls j 0 = x.1 ∧ inA ls j 1 = x.2 := by
  unfold inA
  rw [List.getD_eq_getElem?_getD, h]
  exact ⟨rfl, rfl⟩

theorem open_in2 {H : Type} {enc : TypeId × Value → H} {P : Program} {W : World} {base : Nat} {spare : Nat → Bool} {held : Bool} {t e e1 : TypeId} {r : Reach} {b0 : Nat} {v : Value} {d : DataW H} {p : List MemPlace}
    (ht : P.underlying t = some (.slice e)) (he : P.underlying e = some (.array 2 e1)) (he1 : P.underlying e1 = some (.int .u16)) (hc : P.cellsOf e = 2) (hc1 : P.cellsOf e1 = 1)
    (hv : Value.okWide P W r b0 t v) (h : DataW.Trod enc P W base spare held t v d p) :
    ∃ a cap, ∃ ls : List (Nat × Nat), v = .slice a ls.length cap ∧ InRow W a ls ∧ ls.length ≤ cap ∧ cap ≤ maxLen := by
  obtain ⟨a0, len0, cap0, rfl⟩ := okWide_slice ht hv
  obtain ⟨fuel, hf⟩ := h
  rcases open_slice ht hf with ⟨hcs, _⟩ | ⟨a, len, cap, m, n, D, Pl, hcs, hb, hl, hm, hmm, _, hi⟩
  · simp [Value.cells] at hcs
    obtain ⟨rfl, rfl, rfl⟩ := hcs
    exact ⟨none, 0, [], rfl, ⟨fun x hx => by simp at hx, fun h => by simp at h⟩, by simp, by simp [maxLen]⟩
  · simp [Value.cells] at hcs
    obtain ⟨rfl, rfl, rfl⟩ := hcs
    have hlm : len0 ≤ m := by rw [hmm]; split <;> omega
    have each : ∀ i, i < len0 → ∃ x : Nat × Nat, (W.cell? (a.add (i * 2 + 0)) = some (.int .u16 x.1) ∧ W.cell? (a.add (i * 2 + 1)) = some (.int .u16 x.2)) ∧ x.1 < 65536 ∧ x.2 < 65536 := by
      intro i hil
      obtain ⟨cs', hcc, ht'⟩ := hi i (by omega)
      rw [hc] at hcc
      obtain ⟨xs, m', _, _, hcl, hxl, hx⟩ := DataW.trod_array he ht'
      obtain ⟨_, hcl2, hat⟩ := World.cells?_some hcc
      have t0 := hx 0 (by omega)
      have t1 := hx 1 (by omega)
      rw [hc1] at t0 t1
      simp only [Nat.zero_mul, Nat.one_mul, List.drop_zero] at t0 t1
      have x0 : xs[0]? = some (xs[0]'(by omega)) := List.getElem?_eq_getElem (by omega)
      have x1 : xs[1]? = some (xs[1]'(by omega)) := List.getElem?_eq_getElem (by omega)
      obtain ⟨n0, e0, _, w0⟩ := DataW.trod_int he1 (t0.trans x0)
      obtain ⟨n1, e1, _, w1⟩ := DataW.trod_int he1 (t1.trans x1)
      have b0 := bounds_u16 w0
      have b1 := bounds_u16 w1
      have g0 := hat 0 (by omega)
      have g1 := hat 1 (by omega)
      have k0 : cs'[0]? = some (.int .u16 n0) := by
        have := congrArg (fun l => l[0]?) e0
        simpa [List.getElem?_take] using this
      have k1 : cs'[1]? = some (.int .u16 n1) := by
        have := congrArg (fun l => l[0]?) e1
        simpa [List.getElem?_take, List.getElem?_drop] using this
      obtain ⟨m0, rfl⟩ : ∃ m0 : Nat, n0 = m0 := ⟨n0.toNat, by omega⟩
      obtain ⟨m1, rfl⟩ : ∃ m1 : Nat, n1 = m1 := ⟨n1.toNat, by omega⟩
      refine ⟨(m0, m1), ⟨?_, ?_⟩, by omega, by omega⟩
      · rw [← Go.Deep.add_add, g0, k0]
      · rw [← Go.Deep.add_add, g1, k1]
    obtain ⟨ls, hol, hops⟩ := list_of len0 each
    subst hol
    refine ⟨some a, cap0, ls, rfl, ⟨fun x hx => ?_, fun hp => ?_⟩, hl, hm⟩
    · obtain ⟨i, hi⟩ := List.getElem?_of_mem hx
      exact (hops i x hi).2
    · obtain ⟨b, off, spot⟩ := a
      obtain ⟨x, hx⟩ : ∃ x, ls[0]? = some x := ⟨ls[0]'(by omega), by simp⟩
      have c0 := (hops 0 x hx).1.1
      have hspot : spot = none := by simpa [Addr.add] using World.cell?_spot c0
      subst hspot
      have hadd : ∀ j, (⟨b, off, none⟩ : Addr).add j = ⟨b, off + j, none⟩ := fun j => by unfold Addr.add; split <;> simp_all
      refine ⟨b, off, rfl, ?_, fun j hj => ?_⟩
      · have := World.block_lt_of_cell? W _ c0
        rw [hadd] at this
        exact this
      · have hg : ls[j]? = some (ls[j]'hj) := List.getElem?_eq_getElem hj
        have := (hops j _ hg).1
        simp only [hadd, ← Nat.add_assoc, Nat.add_zero] at this
        rw [(inA_get hg).1, (inA_get hg).2]
        exact this
end Go.Proofs.Ytlhoffhagfhbcaa.I2
namespace Go.Proofs.Ytlhoffhagfhbcaa.Spe
open Go.RowKit Go.Proofs.Ytlhoffhagfhbcaa.Byt Go.Proofs.Ytlhoffhagfhbcaa.Gm
set_option linter.all false

def be2 (z : Int) : List Int := [z / 256 % 256, z % 256]
set_option maxRecDepth 100000 in
set_option maxHeartbeats 2000000 in
theorem put16_any (w : World) (v : Value) (xs : List Int) (z : Int) (h : Out w v xs) (hl : xs.length ≤ 1000000) (h0 : 0 ≤ z) (h1 : z < 65536) :
    Calls Try.prog 90 #[v, .int .u16 z] w (Puts w v (xs ++ be2 z)) := by
  obtain ⟨i0, hi, hz0, hz1, hz2⟩ := info_parts info8
  have w3 : IntKind.u8.wrap (z / 256) = z / 256 % 256 := by simp [IntKind.wrap, IntKind.bits, IntKind.signed]
  have w4 : IntKind.u8.wrap z = z % 256 := by simp [IntKind.wrap, IntKind.bits, IntKind.signed]
  have fin : ∀ (u v' : Value) (w' : World), u.ownBlock = v.ownBlock → On w' 5 1 v' (xs.length + 2) (ub xs ++ ub (be2 z)) → (w.alloc (.cells #[.int .u8 (z / 256 % 256), .int .u8 (z % 256)] 5)).grownBy w' u.ownBlock → (v'.ownBlock = u.ownBlock ∨ v'.ownBlock = some (w.alloc (.cells #[.int .u8 (z / 256 % 256), .int .u8 (z % 256)] 5)).heap.size) →
      Puts w v (xs ++ be2 z) (.returned v') w' := by
    intro u v' w' hu hon hg how
    refine ⟨v', rfl, ?_, ?_, ?_⟩
    · unfold Out; rw [List.length_append, ub_app]; exact hon
    · exact ((Touch.refl _ _).alloc _).grown hg (fun k hk => .inl (by show v.ownBlock = some k; rw [← hu]; exact hk))
    · intro g hgv
      rcases how with e | e
      · exact .inl (by rw [← hu, ← e]; exact hgv)
      · rw [e] at hgv; cases hgv; exact .inr (by simp)
  have HFin := Lib.hid fin
  clear fin
  rcases h.form with ⟨rfl, hn, hx⟩ | ⟨g, cap, rfl, hnc, hcm, how, hgl, hcell, hfr⟩
  · have hxs : xs = [] := List.eq_nil_of_length_eq_zero hn
    subst hxs
    clear hn hx
    have X := Lib.hid (show Out (w.alloc (.cells #[.int .u8 (z / 256 % 256), .int .u8 (z % 256)] 5)) (.slice none 0 0) [] from Out.nil _)
    clear h
    go_enter Try.func90, Try.ntmps90
    go_wp2_with (at_builtin; refine wpList_append_on _ (by rfl) _ _ 61 (by rfl) 5 i0 _ 1 1 Try.underlying61 hi hz0 hz1 hz2 (by rfl) (by omega) (.slice none 0 0) 0 [] (by rfl) X.out (some ⟨w.heap.size, 0, none⟩) 2 2 (ub (be2 z)) (by rfl) (by rfl) (src_new w 5 2 (ub (be2 z))) (ub_one _) (by simp only [maxLen]; omega) (by omega) ?_; intro v' w' hon hg hv')
    go_ret
    exact HFin.out _ _ _ rfl hon hg hv'
  · have hcut := On.cut h (k := xs.length) (Nat.le_refl _)
    have e1 : (ub xs).take (xs.length * 1) = ub xs := by rw [Nat.mul_one, ← ub_len xs, List.take_length]
    rw [e1] at hcut
    have X := hcut.alloc (.cells #[.int .u8 (z / 256 % 256), .int .u8 (z % 256)] 5)
    have l1 : (xs.length : Int) ≤ (cap : Int) := by omega
    have l0 : (0 : Int) ≤ (xs.length : Int) := by omega
    obtain ⟨n, hn⟩ : ∃ n, n = xs.length := ⟨_, rfl⟩
    have HL := Lib.hid hn
    rw [← hn] at l1 l0 X
    have hcm' : cap ≤ 9223372036854775807 := by simp only [maxLen] at hcm; omega
    have hn2 : n ≤ 1000000 := by omega
    rw [← hn]
    have X3 := Lib.hid X
    clear h hcut e1 hcell hfr hnc hl hn X
    go_enter Try.func90, Try.ntmps90
    go_wp2_with (at_builtin; refine wpList_append_on _ (by rfl) _ _ 61 (by rfl) 5 i0 _ 1 1 Try.underlying61 hi hz0 hz1 hz2 (by rfl) (by omega) (.slice (some ⟨g, 0, none⟩) n n) n (ub xs) (by rfl) X3.out (some ⟨w.heap.size, 0, none⟩) 2 2 (ub (be2 z)) (by rfl) (by rfl) (src_new w 5 2 (ub (be2 z))) (ub_one _) (by simp only [maxLen]; omega) (by omega) ?_; intro v' w' hon hg hv')
    go_ret
    have HF := HFin.out (.slice (some ⟨g, 0, none⟩) n n) _ _ (by rfl) (by rw [← HL.out]; exact hon) hg hv'
    rw [← HL.out] at HF
    exact HF


/-- How many of a list's first entries are x, at most m. -/
def lead (x : Nat × Nat) : Nat → List (Nat × Nat) → Nat
  | 0, _ => 0
  | _, [] => 0
  | m + 1, y :: l => if y = x then lead x m l + 1 else 0
theorem lead_le (x : Nat × Nat) : ∀ (m : Nat) (l : List (Nat × Nat)), lead x m l ≤ m ∧ lead x m l ≤ l.length
  | 0, l => by simp [lead]
  | m + 1, [] => by simp [lead]
  | m + 1, y :: l => by
    unfold lead
    have := lead_le x m l
    split
    · simp; omega
    · simp
theorem lead_zero (x : Nat × Nat) (l : List (Nat × Nat)) : lead x 0 l = 0 := by unfold lead; rfl
theorem lead_nil (x : Nat × Nat) (m : Nat) : lead x m [] = 0 := by cases m <;> simp [lead]
theorem lead_no {x y : Nat × Nat} (m : Nat) (l : List (Nat × Nat)) (h : y ≠ x) : lead x m (y :: l) = 0 := by cases m <;> simp [lead, h]
theorem lead_yes (x : Nat × Nat) (m : Nat) (l : List (Nat × Nat)) : lead x (m + 1) (x :: l) = lead x m l + 1 := by simp [lead]
/-- The runs of a list. -/
def runsF : Nat → List (Nat × Nat) → List (Nat × (Nat × Nat))
  | 0, _ => []
  | _, [] => []
  | k + 1, x :: l => (1 + lead x 254 l, x) :: runsF k (l.drop (lead x 254 l))
def runsL (l : List (Nat × Nat)) : List (Nat × (Nat × Nat)) := runsF l.length l
theorem runsF_enough : ∀ (k : Nat) (l : List (Nat × Nat)), l.length ≤ k → runsF k l = runsF l.length l
  | 0, l, h => by obtain rfl : l = [] := List.eq_nil_of_length_eq_zero (by omega); rfl
  | k + 1, [], _ => by simp [runsF]
  | k + 1, x :: l, h => by
    have hl : (l.drop (lead x 254 l)).length ≤ l.length := by simp
    simp only [runsF, List.length_cons]
    rw [runsF_enough k _ (by simp at h; omega), runsF_enough l.length _ hl]
theorem runsL_nil : runsL [] = [] := rfl
theorem runsL_cons (x : Nat × Nat) (l : List (Nat × Nat)) : runsL (x :: l) = (1 + lead x 254 l, x) :: runsL (l.drop (lead x 254 l)) := by
  unfold runsL
  simp only [runsF, List.length_cons]
  rw [runsF_enough l.length _ (by simp)]
theorem runsL_len : ∀ (n : Nat) (l : List (Nat × Nat)), l.length ≤ n → (runsL l).length ≤ l.length
  | n, [], _ => by simp [runsL_nil]
  | 0, x :: l, h => by simp at h
  | n + 1, x :: l, h => by
    rw [runsL_cons]
    have := runsL_len n (l.drop (lead x 254 l)) (by simp at h ⊢; omega)
    simp at this ⊢
    omega
end Go.Proofs.Ytlhoffhagfhbcaa.Spe
namespace Go.Proofs.Ytlhoffhagfhbcaa.Spe
open Go.RowKit Go.Shelf Go.Proofs.Ytlhoffhagfhbcaa.Byt Go.Proofs.Ytlhoffhagfhbcaa.Gm Go.Proofs.Ytlhoffhagfhbcaa.RingE
set_option linter.all false
attribute [local go_sem] Oper.semAt_some

def encR (x : Nat × (Nat × Nat)) : Array Value := #[.int .i64 (x.1 : Int), .agg #[.int .u16 (x.2.1 : Int), .int .u16 (x.2.2 : Int)]]
def runAt (ls : List (Nat × Nat)) (k : Nat) : Nat × (Nat × Nat) := (runsL ls).getD k (0, (0, 0))

def inC (x : Nat × Nat) : Array Value := #[.int .u16 (x.1 : Int), .int .u16 (x.2 : Int)]
theorem key48 : Try.prog.keyTypeAt 6 69 = true := by kernel_rfl
theorem tiled48 : Try.prog.tiled 6 69 = true := by kernel_rfl
theorem lits48 : (Try.prog.keyLits 6 69 (inC (0, 0)).toList).isSome = true := by kernel_rfl
theorem cells48 : (inC (0, 0)).toList.length = Try.prog.cellsOf 69 := by kernel_rfl
theorem sameK_in {x : Nat × Nat} (h : x.1 < 65536 ∧ x.2 < 65536) : Eql.SameK (inC (0, 0)).toList (inC x).toList := by
  obtain ⟨h1, h2⟩ := h
  refine ⟨rfl, fun i a b ha hb => ?_⟩
  match i with
  | 0 =>
    simp [inC] at ha hb
    subst ha; subst hb
    exact .inr ⟨_, _, _, rfl, rfl, by simp [Lit.wf, IntKind.min, IntKind.max, IntKind.bits, IntKind.signed] <;> omega⟩
  | 1 =>
    simp [inC] at ha hb
    subst ha; subst hb
    exact .inr ⟨_, _, _, rfl, rfl, by simp [Lit.wf, IntKind.min, IntKind.max, IntKind.bits, IntKind.signed] <;> omega⟩
  | i + 2 => simp [inC] at ha
theorem in_eql (W : World) (x y : Nat × Nat) (hx : x.1 < 65536 ∧ x.2 < 65536) (hy : y.1 < 65536 ∧ y.2 < 65536) :
    (Op.equalIn 10000 69 (.agg (inC x)) (.agg (inC y))).run Try.prog W = .ok (decide (x = y)) W := by
  obtain ⟨r, hr, hi⟩ := Eql.eql_run (P := Try.prog) W (m := 6) (by decide) key48 tiled48 (by kernel_rfl) (inC (0, 0)).toList lits48 cells48 (xs := inC x) (ys := inC y) (sameK_in hx) (sameK_in hy)
  have : r = decide (x = y) := by
    rw [Bool.eq_iff_iff, hi]
    simp [inC, Prod.ext_iff]
    try omega
  rw [hr, this]

set_option maxRecDepth 100000 in
set_option maxHeartbeats 4000000 in
theorem runs1_in (lo tb : Nat) (K : Nat → Prop) (sd : Int) (a : Option Addr) (cap : Nat) (ls : List (Nat × Nat)) (J Jx : Nat → World → Prop)
    (hY : ∀ k, k < (runsL ls).length → ∀ W1, J k W1 → YieldAt Fence.wide 7 Try.prog lo (encR (runAt ls k)) W1 fun e W' =>
      (e = .returned (.bool true) ∧ J (k + 1) W' ∧ KeepB K W1 W') ∨ (e = .returned (.bool false) ∧ Jx (k + 1) W'))
    (W : World) (hbox : Blk W tb 49 #[.int .u32 sd, .slice a ls.length cap]) (hrow : InRow W a ls) (hKt : K tb) (hKa : 0 < ls.length → ∀ b, a.map (·.block) = some b → K b) (hl : ls.length ≤ 20000) (hJ0 : J 0 W) (hJd : ∀ k W n, J k W → J k (W.drewN n)) :
    CallsIn Fence.wide 8 Try.prog 121 #[.func (.yield lo) #[] #[], .pointer (some ⟨tb, 0, none⟩)] W fun e W' => (∃ v, e = .returned v) ∧ (J (runsL ls).length W' ∨ ∃ k, k ≤ (runsL ls).length ∧ Jx k W') := by
  refine (callsIn_wide (n := 8)).2 ?_
  go_enter Try.func121, Try.ntmps121
  go_wp2_with fail
  go_loopw [3] (fun i wr => ∃ p k : Nat, p ≤ ls.length ∧ i = .int .i64 (p : Int) ∧ k ≤ (runsL ls).length ∧ (runsL ls).drop k = runsL (ls.drop p) ∧ J k wr ∧ KeepB K W wr) (fun i _ => ((ls.length : Int) - intOf i).toNat)
  case atStart => exact ⟨0, 0, Nat.zero_le _, rfl, Nat.zero_le _, by simp, hJ0, keepB_refl _⟩
  case round =>
    obtain ⟨p, k, hp, rfl, hk, hdr, hj, hkp⟩ := hrel
    have hbx : Blk wr tb 49 #[.int .u32 sd, .slice a ls.length cap] := (hkp tb hKt).trans hbox
    have q1 : wr.cell? ⟨tb, 1, none⟩ = some (.slice a ls.length cap) := hbx.cell 1
    by_cases hlt : p < ls.length
    · have hlt' : (p : Int) < (ls.length : Int) := by omega
      obtain ⟨b, off, rfl, hbl, hcell⟩ := hrow.2 (by omega)
      have hkb : K b := hKa (by omega) b rfl
      have hcl : ∀ V : World, KeepB K W V → ∀ j x, ls[j]? = some x → V.cell? ⟨b, off + j * 2, none⟩ = some (.int .u16 (x.1 : Int)) ∧ V.cell? ⟨b, off + j * 2 + 1, none⟩ = some (.int .u16 (x.2 : Int)) := fun V hV j x hx => by
        obtain ⟨e0, e1⟩ := I2.inA_get hx
        have h2 := hcell j (List.getElem?_eq_some_iff.1 hx).1
        rw [e0, e1] at h2
        exact ⟨cell_keep h2.1 hV hkb, cell_keep h2.2 hV hkb⟩
      obtain ⟨x, hx⟩ : ∃ x, ls[p]? = some x := ⟨ls[p], List.getElem?_eq_getElem hlt⟩
      have hdx : ls.drop p = x :: ls.drop (p + 1) := by
        rw [List.drop_eq_getElem_cons hlt]
        rw [List.getElem?_eq_getElem hlt] at hx
        rw [Option.some.inj hx]
      obtain ⟨cx0, cx1⟩ := hcl wr hkp p x hx
      obtain ⟨Nn, hNn⟩ : ∃ Nn, Nn = 1 + lead x 254 (ls.drop (p + 1)) := ⟨_, rfl⟩
      have HN := Lib.hid hNn
      generalize wr = V at *
      have HKP := Lib.hid hkp
      have HJ := Lib.hid hj
      have HCL := Lib.hid hcl
      have HDX := Lib.hid hdx
      have HX := Lib.hid hx
      have HBD := Lib.hid hrow.1
      clear hcl hcell hrow hbx hbox hdx hx hj
      go_upto_block 2 with fail
      go_cut [4] (fun n wx => n = .int .i64 (Nn : Int) ∧ ∃ d, wx = V.drewN d)
      case first =>
        go_wp2_with fail
        go_loopw [4] (fun n wr => ∃ m d : Nat, 1 ≤ m ∧ m ≤ 255 ∧ p + m ≤ ls.length ∧ n = .int .i64 (m : Int) ∧ m + lead x (255 - m) (ls.drop (p + m)) = Nn ∧ wr = V.drewN d) (fun n _ => (255 - intOf n).toNat)
        case atStart => exact ⟨1, 0, by omega, by omega, by omega, rfl, hNn.symm, rfl⟩
        case round =>
          obtain ⟨m, d, hm1, hm2, hpm, rfl, hmn, rfl⟩ := hrel
          have hm0 : (0 : Int) ≤ (m : Int) := by omega
          have hp0 : (0 : Int) ≤ (p : Int) := by omega
          obtain ⟨q, hq⟩ : ∃ q, q = p + m := ⟨_, rfl⟩
          have hwp : IntKind.i64.wrap ((p : Int) + (m : Int)) = (q : Int) := by
            rw [show (p : Int) + (m : Int) = (q : Int) by omega]
            exact IntWalk.i64_in _ (by omega)
          rw [← hq] at hmn
          have HQ := Lib.hid hq
          have hq0 : (0 : Int) ≤ (q : Int) := by omega
          by_cases c1 : m < 255
          · have c1' : (m : Int) < 255 := by omega
            by_cases c2 : q < ls.length
            · have c2' : (q : Int) < (ls.length : Int) := by omega
              obtain ⟨y, hy⟩ : ∃ y, ls[q]? = some y := ⟨ls[q], List.getElem?_eq_getElem c2⟩
              have hdy : ls.drop q = y :: ls.drop (q + 1) := by
                rw [List.drop_eq_getElem_cons c2]
                rw [List.getElem?_eq_getElem c2] at hy
                rw [Option.some.inj hy]
              obtain ⟨cy0, cy1⟩ := HCL.out V HKP.out q y hy
              have hbx := HBD.out x (List.mem_of_getElem? HX.out)
              have hby := HBD.out y (List.mem_of_getElem? hy)
              have hEq0 := fun W => in_eql W y x hby hbx
              obtain ⟨x0, x1⟩ := x
              obtain ⟨y0, y1⟩ := y
              by_cases c3 : (y0, y1) = (x0, x1)
              · have hEq : ∀ W, (Op.equalIn 10000 69 (.agg #[.int .u16 (y0 : Int), .int .u16 (y1 : Int)]) (.agg #[.int .u16 (x0 : Int), .int .u16 (x1 : Int)])).run Try.prog W = .ok true W := fun W => by
                  have := hEq0 W
                  rw [decide_eq_true c3] at this
                  exact this
                clear hEq0
                obtain ⟨rfl, rfl⟩ := Prod.mk.inj c3
                have hnx := Lib.hid (show (m + 1) + lead (y0, y1) (255 - (m + 1)) (ls.drop (p + (m + 1))) = Nn by
                  rw [← hmn, hdy, show 255 - m = (255 - (m + 1)) + 1 by omega, lead_yes, show p + (m + 1) = q + 1 by omega]
                  omega)
                clear hmn hdy hy c3 hq
                go_wp2_with fail
                go_quiet (fail)
                go_wp2_with fail
                exact ⟨⟨m + 1, _, by omega, by omega, by have := HQ.out; omega, by simp, hnx.out, rfl⟩, by simp [intOf]; omega⟩
              · have hnx := Lib.hid (show m = Nn by rw [← hmn, hdy, lead_no _ _ c3]; rfl)
                have hEq : ∀ W, (Op.equalIn 10000 69 (.agg #[.int .u16 (y0 : Int), .int .u16 (y1 : Int)]) (.agg #[.int .u16 (x0 : Int), .int .u16 (x1 : Int)])).run Try.prog W = .ok false W := fun W => by
                  have := hEq0 W
                  rw [decide_eq_false c3] at this
                  exact this
                clear hmn hdy hy hq c3 hEq0
                go_wp2_with fail
                go_quiet (fail)
                go_wp2_with fail
                go_meet
                exact ⟨by rw [hnx.out], d + nq, by simp⟩
            · have c2' : ¬ (q : Int) < (ls.length : Int) := by omega
              have hnx := Lib.hid (show m = Nn by
                have : ls.drop q = [] := List.drop_eq_nil_of_le (by omega)
                rw [← hmn, this, lead_nil]; rfl)
              clear hmn hq
              go_wp2_with fail
              go_quiet (fail)
              go_wp2_with fail
              go_meet
              exact ⟨by rw [hnx.out], d + nq, by simp⟩
          · have c1' : decide ((m : Int) < 255) = false := by simp; omega
            have hnx := Lib.hid (show m = Nn by
              rw [← hmn, show 255 - m = 0 by omega, lead_zero]; rfl)
            clear hmn hq
            go_wp2_with fail
            go_quiet (fail)
            go_wp2_with fail
            go_meet
            exact ⟨by rw [hnx.out], d + nq, by simp⟩
      case rest =>
        obtain ⟨rfl, d, rfl⟩ := hcut
        have hruns : runsL (ls.drop p) = (Nn, x) :: runsL ((ls.drop (p + 1)).drop (lead x 254 (ls.drop (p + 1)))) := by
          rw [HDX.out, runsL_cons, ← HN.out]
        have hkl : k < (runsL ls).length := by
          have := congrArg List.length hdr
          rw [hruns, List.length_drop, List.length_cons] at this
          omega
        have hat : runAt ls k = (Nn, x) := by
          have h2 : (runsL ls)[k]? = some (Nn, x) := by
            have := congrArg (fun l : List (Nat × (Nat × Nat)) => l[0]?) hdr
            simp only [List.getElem?_drop, Nat.add_zero, hruns] at this
            simpa using this
          unfold runAt
          rw [List.getD_eq_getElem?_getD, h2]
          rfl
        have hlead := (lead_le x 254 (ls.drop (p + 1)))
        rw [List.length_drop] at hlead
        have hnext : (runsL ls).drop (k + 1) = runsL (ls.drop (p + Nn)) := by
          have := congrArg (List.drop 1) hdr
          rw [hruns, List.drop_drop, List.drop_succ_cons, List.drop_zero, List.drop_drop] at this
          rw [this]
          congr 2
          have := HN.out
          omega
        have hN2 := HN.out
        have hpn : p + Nn ≤ ls.length ∧ 1 ≤ Nn := by omega
        have HNX := Lib.hid hnext
        have hyk := hY k hkl (V.drewN d) (hJd k V d HJ.out)
        rw [hat] at hyk
        obtain ⟨x0, x1⟩ := x
        obtain ⟨fn, tmps, assign, body, hy, hR⟩ := hyk
        dsimp only [encR] at hy
        have hR2 : Hid (RoundIn Fence.wide 7 Try.prog lo fn tmps assign body (V.drewN d) (fun e W' => ∃ bb, e = .returned (.bool bb) ∧ (if bb = true then J (k + 1) W' ∧ KeepB K (V.drewN d) W' else Jx (k + 1) W'))) :=
          Lib.hid (RoundIn.mono hR (fun e W' h => by
            rcases h with ⟨rfl, h1, h2⟩ | ⟨rfl, h1⟩
            · exact ⟨true, rfl, by simpa using ⟨h1, h2⟩⟩
            · exact ⟨false, rfl, by simpa using h1⟩))
        have hp0 : (0 : Int) ≤ (p : Int) := by omega
        have hwp : IntKind.i64.wrap ((p : Int) + (Nn : Int)) = ((p + Nn : Nat) : Int) := by
          rw [Int.natCast_add]; exact IntWalk.i64_in _ (by omega)
        clear hR hY hruns hat hnext hdr hNn hN2 HN hlead
        go_upto_region 5 with fail
        refine (wpIn_wide (n := 8)).1 ?_
        gi_wp2_with (first | (refine hR2.out.mono ?_; rintro e W3 ⟨bb, rfl, hq⟩) | fail)
        cases bb
        · have hq' : Jx (k + 1) W3 := by simpa using hq
          clear hq
          go_wp2_with fail
          refine bodyPost_ret (results_none rfl _ _ _) rfl ⟨⟨_, rfl⟩, .inr ⟨k + 1, hkl, hq'⟩⟩
        · have hq' : J (k + 1) W3 ∧ KeepB K (V.drewN d) W3 := by simpa using hq
          clear hq
          go_wp2_with fail
          refine ⟨⟨p + Nn, k + 1, by omega, by simp, hkl, HNX.out, hq'.1, keepB_t HKP.out (keepB_t (B := V.drewN d) (fun _ _ => rfl) hq'.2)⟩, by simp [intOf]; omega⟩
    · obtain rfl : p = ls.length := by omega
      have hk2 : k = (runsL ls).length := by
        have := congrArg List.length hdr
        rw [List.drop_length, runsL_nil, List.length_drop] at this
        simp at this
        omega
      go_wp2_with fail
      refine bodyPost_end (results_none rfl _ _ _) rfl ⟨⟨_, rfl⟩, .inl ?_⟩
      rw [← hk2]
      exact hj
end Go.Proofs.Ytlhoffhagfhbcaa.Spe
namespace Go.Proofs.Ytlhoffhagfhbcaa.Spe
open Go.RowKit Go.Shelf Go.Proofs.Ytlhoffhagfhbcaa.Byt Go.Proofs.Ytlhoffhagfhbcaa.Gm Go.Proofs.Ytlhoffhagfhbcaa.RingE Go.Proofs.Ytlhoffhagfhbcaa.Crc
set_option linter.all false
attribute [local go_sem] Oper.semAt_some

def runB (x : Nat × (Nat × Nat)) : List Int := [(x.1 : Int) % 256] ++ be2 (x.2.1 : Int) ++ be2 (x.2.2 : Int)
def headB (sd : Int) (n : Nat) : List Int := be2 16980 ++ be4 sd ++ be4 (n : Int)
def tapeB (sd : Int) (ls : List (Nat × Nat)) : List Int := headB sd ls.length ++ (runsL ls).flatMap runB

set_option maxRecDepth 100000 in
set_option maxHeartbeats 1000000 in
theorem runs_any (w : World) (sd : Int) (a : Option Addr) (len cap : Nat) :
    Calls Try.prog 91 #[.agg #[.int .u32 sd, .slice a len cap]] w fun e w' => e = .returned (.func (.func 121) #[] #[.pointer (some ⟨w.heap.size, 0, none⟩)]) ∧ w.alloc (.cells #[.int .u32 sd, .slice a len cap] 49) = w' := by
  have hmf : ∀ (fn : Fn) (first cap : Array Value) (w : World), (Instr.makeFunc fn first cap).run Try.prog w = .ok (.func fn first cap) w := fun _ _ _ _ => rfl
  go_enter Try.func91, Try.ntmps91
  go_wp2
  go_ret
  exact ⟨rfl, rfl⟩

theorem noOwn (k : Nat) : ¬ OwnB (.slice none 0 0) k := fun h => by simp [OwnB, Value.ownBlock] at h
/-- Bytes that are put one behind the other, in blocks of their own. -/
structure Grow (w : World) (v : Value) (xs : List Int) (W : World) : Prop where
  out : Out W v xs
  below : Below w.heap.size w W
  own : ∀ g, v.ownBlock = some g → w.heap.size ≤ g
theorem Grow.put {w : World} {v : Value} {xs ys : List Int} {W : World} {e : Ending} {W' : World} (h : Grow w v xs W) (hp : Puts W v ys e W') : ∃ v', e = .returned v' ∧ Grow w v' ys W' ∧ Touch (OwnB v) W W' := by
  obtain ⟨v', rfl, ho, ht, hg⟩ := hp
  exact ⟨v', rfl, ⟨ho, h.below.trans (ht.below h.below.size (fun k hk => h.own k hk)), fun g hg' => (hg g hg').elim (h.own g) (fun e => Nat.le_trans h.below.size e)⟩, ht⟩

set_option maxRecDepth 100000 in
set_option maxHeartbeats 4000000 in
theorem tbytes_long (w : World) (g : Nat) (sd : Int) (a : Option Addr) (len cap : Nat) (hl : 16384 < len) (hm : len ≤ 9223372036854775807) :
    Calls Try.prog 45 #[.agg #[.int .u32 sd, .slice a len cap], .pointer (some ⟨g, 0, none⟩)] w fun e w' => e = .returned (.tuple #[.slice none 0 0, .int .i64 2]) ∧ Below w.heap.size w w' := by
  have h1 : (16384 : Int) < (len : Int) := by omega
  go_enter Try.func45, Try.ntmps45
  go_wp2_with fail
  go_ret2
  exact ⟨rfl, (Below.refl _ w).alloc (Nat.le_refl _) _⟩

theorem Grow.alloc {w : World} {v : Value} {xs : List Int} {W : World} (h : Grow w v xs W) (o : Obj) : Grow w v xs (W.alloc o) := ⟨On.alloc h.out o, h.below.alloc h.below.size o, h.own⟩
theorem Grow.drew {w : World} {v : Value} {xs : List Int} {W : World} (h : Grow w v xs W) : Grow w v xs W.drew := ⟨On.below h.out ((Below.refl _ W).drew) (On.lt h.out), h.below.drew, h.own⟩
theorem Grow.set {w : World} {v : Value} {xs : List Int} {W : World} (h : Grow w v xs W) {t : Nat} {T : TypeId} {cs : Array Value} (hb : Blk W t T cs) (hT : 5 ≠ T) (ht : w.heap.size ≤ t) (u : Value) (j : Nat) : Grow w v xs (W.setCell ⟨t, j, none⟩ u) :=
  ⟨On.far h.out (On.blk_ne h.out hb hT) u, h.below.setCell ht u, h.own⟩
theorem put16_grow (w W : World) (v : Value) (xs : List Int) (z : Int) (h : Grow w v xs W) (hl : xs.length ≤ 1000000) (h0 : 0 ≤ z) (h1 : z < 65536) :
    Calls Try.prog 90 #[v, .int .u16 z] W fun e w' => ∃ a c, e = .returned (.slice a (xs.length + 2) c) ∧ Grow w (.slice a (xs.length + 2) c) (xs ++ be2 z) w' ∧ Touch (OwnB v) W w' := by
  refine (put16_any W v xs z h.out hl h0 h1).mono ?_
  intro e w' hp
  obtain ⟨v', rfl, g, t⟩ := h.put hp
  obtain ⟨a, c, hv, -, -⟩ := On.slice g.out
  have hl2 : (xs ++ be2 z).length = xs.length + 2 := by simp [be2]
  rw [hl2] at hv
  subst hv
  exact ⟨a, c, rfl, g, t⟩
theorem put32_grow (w W : World) (v : Value) (xs : List Int) (z : Int) (h : Grow w v xs W) (hl : xs.length ≤ 1000000) (h0 : 0 ≤ z) (h1 : z < 4294967296) :
    Calls Try.prog 68 #[v, .int .u32 z] W fun e w' => ∃ a c, e = .returned (.slice a (xs.length + 4) c) ∧ Grow w (.slice a (xs.length + 4) c) (xs ++ be4 z) w' ∧ Touch (OwnB v) W w' := by
  refine (put32_any W v xs z h.out hl h0 h1).mono ?_
  intro e w' hp
  obtain ⟨v', rfl, g, t⟩ := h.put hp
  obtain ⟨a, c, hv, -, -⟩ := On.slice g.out
  have hl2 : (xs ++ be4 z).length = xs.length + 4 := by simp [be4]
  rw [hl2] at hv
  subst hv
  exact ⟨a, c, rfl, g, t⟩
theorem Grow.blk {w : World} {v : Value} {xs : List Int} {W : World} (h : Grow w v xs W) {g : Nat} {T : TypeId} {cs : Array Value} (hb : Blk w g T cs) : Blk W g T cs := Blk.below hb h.below (Blk.lt hb)
theorem Grow.notOwn {w : World} {v : Value} {xs : List Int} {W : World} (h : Grow w v xs W) {t : Nat} {T : TypeId} {cs : Array Value} (hb : Blk W t T cs) (hT : 5 ≠ T) : ¬ OwnB v t := On.blk_ne h.out hb hT


theorem wpListIn_append_on {F : Fence} {n0 : Nat} {P : Program} (w : World) {ops : Array Oper} {rest : List Oper} {o : Oper} {a : Act} {Q : Exit → Act → World → Prop} (hgd : o.guard = none) (s x : Operand) (t : TypeId)
    (ho : o.op = .call { callee := .builtin .append, args := #[s, x], argTypes := #[t, t] })
    (e : TypeId) (i : TypeInfo) (z : Value) (size bytes : Nat) (ht : P.underlying t = some (.slice e)) (hi : P.info? e = some i) (hz : i.zero = some z)
    (hsize : i.size = size) (hby : i.bytes = bytes) (hzs : z.cells.size = size) (hsz : 0 < size)
    (v : Value) (n : Nat) (xs : List Value) (hs : a.eval s = v) (hown : On w e size v n xs)
    (A : Option Addr) (m c : Nat) (news : List Value) (hx : a.eval x = .slice A m c) (hl : news.length = m * size) (hnews : Src w A m news) (h1 : ∀ u ∈ news, u.oneCell' = true)
    (h63 : n + m ≤ maxLen) (hbytes : (n + m) * bytes ≤ 140737488355328)
    (h : ∀ v' w', On w' e size v' (n + m) (xs ++ news) → w.grownBy w' v.ownBlock → (v'.ownBlock = v.ownBlock ∨ v'.ownBlock = some w.heap.size) → wpListIn F n0 P ops Q rest (a.put o.dst v') w') : wpListIn F n0 P ops Q (o :: rest) a w := by
  refine wpListIn_plain hgd fun K hK' => ?_
  obtain ⟨v', w', hrun, h2, h3, h4⟩ := run_append_on (P := P) w t o.type e i z size bytes ht hi hz hsize hby hzs hsz v n xs hown A m c news hl hnews h1 h63 hbytes
  unfold Oper.wpIn
  refine ⟨?_, ?_⟩
  · simp [Oper.about, ho, resolve, Target.leads, Sem.run_pure]
  · have hsem : o.semAt F.round a.eval = execOp a.eval o := by
      cases F.round with
      | none => simp [Oper.semAt]
      | some l => exact Oper.semAt_some l _ _ (by rw [ho]; intro c hc'; cases hc')
    rw [hsem]
    simp [execOp, ho, resolve, invoke, builtin, hs, hx, hrun, Result.andThen]
    exact hK' _ _ (h v' w' h2 h3 h4)

theorem out_snoc {w : World} {v : Value} {zs ys : List Int} (h : On w 5 1 v (zs.length + ys.length) (ub zs ++ ub ys)) : Out w v (zs ++ ys) := by
  unfold Out
  rw [List.length_append, show ub (zs ++ ys) = ub zs ++ ub ys from by simp [ub]]
  exact h
theorem nth_some' {l : List Int} {k : Nat} (h : k < l.length) : l[k]? = some (nth l k) := by simp [nth, List.getD, h]
theorem out_row {w : World} {v : Value} {xs : List Int} (h : Out w v xs) : ∃ a c, v = .slice a xs.length c ∧ Row .u8 w a xs.length xs := by
  rcases On.form h with ⟨rfl, hn, hx⟩ | ⟨g, cap, rfl, hnc, hcm, how, hgl, hcell, hfr⟩
  · exact ⟨none, 0, by rw [hn], rfl, fun hp => by omega⟩
  · refine ⟨_, _, rfl, rfl, fun hp => ⟨g, 0, rfl, hgl, fun j hj => ?_⟩⟩
    rw [Nat.zero_add]
    exact hcell j _ (by unfold ub; rw [List.getElem?_map, nth_some' hj]; rfl)
theorem be2_byte (z : Int) : ∀ x ∈ be2 z, 0 ≤ x ∧ x < 256 := by
  intro x hx
  simp [be2] at hx
  rcases hx with rfl | rfl <;> omega
theorem be4_byte (z : Int) : ∀ x ∈ be4 z, 0 ≤ x ∧ x < 256 := by
  intro x hx
  simp [be4] at hx
  rcases hx with rfl | rfl | rfl | rfl <;> omega
theorem tapeB_byte (sd : Int) (ls : List (Nat × Nat)) : ∀ x ∈ tapeB sd ls, 0 ≤ x ∧ x < 256 := by
  intro x hx
  unfold tapeB headB at hx
  simp only [List.mem_append, List.mem_flatMap] at hx
  rcases hx with ((hx | hx) | hx) | ⟨y, _, hx⟩
  · exact be2_byte _ x hx
  · exact be4_byte _ x hx
  · exact be4_byte _ x hx
  · unfold runB at hx
    simp only [List.mem_append, List.mem_singleton] at hx
    rcases hx with (rfl | hx) | hx
    · omega
    · exact be2_byte _ x hx
    · exact be2_byte _ x hx
theorem inRow_below {w W : World} {B : Nat} {a : Option Addr} {ls : List (Nat × Nat)} (h : InRow w a ls) (hb : Below B w W) (hB : 0 < ls.length → ∀ b, a.map (·.block) = some b → b < B) : InRow W a ls :=
  ⟨h.1, fun h0 => by
    obtain ⟨b, off, rfl, hl, hc⟩ := h.2 h0
    exact ⟨b, off, rfl, Nat.lt_of_lt_of_le hl hb.size, fun j hj => ⟨(hb.cell (hB h0 b rfl)).trans (hc j hj).1, (hb.cell (hB h0 b rfl)).trans (hc j hj).2⟩⟩⟩
theorem inRow_lt {w : World} {a : Option Addr} {ls : List (Nat × Nat)} (h : InRow w a ls) : 0 < ls.length → ∀ b, a.map (·.block) = some b → b < w.heap.size := fun h0 b hb => by
  obtain ⟨b', off, rfl, hl, _⟩ := h.2 h0
  have : b = b' := by simpa using hb.symm
  exact this ▸ hl
theorem inRow_pre {w W : World} {a : Option Addr} {ls : List (Nat × Nat)} (h : InRow w a ls) (hb : Below w.heap.size w W) : InRow W a ls := inRow_below h hb (inRow_lt h)
theorem runs_nat (tb : Nat) (K : Nat → Prop) (sd : Int) (a : Option Addr) (cap : Nat) (ls : List (Nat × Nat)) (w : World) (hK : ∀ k, K k → k < w.heap.size) (hbox : Blk w tb 49 #[.int .u32 sd, .slice a ls.length cap]) (hrow : InRow w a ls) (hKt : K tb) (hKa : 0 < ls.length → ∀ b, a.map (·.block) = some b → K b) (hl : ls.length ≤ 20000) :
    SeqStopsK Fence.wide 8 Try.prog 121 #[.pointer (some ⟨tb, 0, none⟩)] (fun k => encR (runAt ls k)) (KeepB K) (fun ys => ys = List.range (runsL ls).length) (fun pre => ∃ k, k ≤ (runsL ls).length ∧ pre = List.range k) (runsL ls).length w := fun lo J Jx W hW hJ _ hY hJ0 => by
  refine (runs1_in lo tb K sd a cap ls (fun k W => J (List.range k) W) (fun k W => Jx (List.range k) W) (fun k hk W1 h => ?_) W (hbox.below hW (hK _ hKt)) (inRow_below hrow hW (fun h0 b hb => hK b (hKa h0 b hb))) hKt hKa hl hJ0
    (fun k W2 n h => hJ _ W2 _ none h ⟨rfl, rfl, rfl, Nat.le_refl _, fun _ _ _ => rfl⟩ (fun r e => by cases e))).mono ?_
  · have := hY (List.range k) k W1 h (by simpa using hk)
    rw [← List.range_succ] at this
    exact this
  · rintro e W2 ⟨hv, h | ⟨k, hk, h⟩⟩
    · exact ⟨hv, .inl ⟨_, rfl, h⟩⟩
    · exact ⟨hv, .inr ⟨_, ⟨k, hk, rfl⟩, h⟩⟩

def preB (sd : Int) (ls : List (Nat × Nat)) (k : Nat) : List Int := headB sd ls.length ++ ((runsL ls).take k).flatMap runB
theorem runB_len (x : Nat × (Nat × Nat)) : (runB x).length = 5 := by simp [runB, be2]
theorem flat_len (l : List (Nat × (Nat × Nat))) : (l.flatMap runB).length = 5 * l.length := by
  induction l with
  | nil => simp
  | cons x l ih => rw [List.flatMap_cons, List.length_append, ih, runB_len, List.length_cons]; omega
theorem preB_len (sd : Int) (ls : List (Nat × Nat)) (k : Nat) (hk : k ≤ (runsL ls).length) : (preB sd ls k).length = 10 + 5 * k := by
  unfold preB
  rw [List.length_append, flat_len, List.length_take, Nat.min_eq_left hk]
  simp [headB, be2, be4]
theorem preB_zero (sd : Int) (ls : List (Nat × Nat)) : preB sd ls 0 = headB sd ls.length := by simp [preB]
theorem preB_succ (sd : Int) (ls : List (Nat × Nat)) (k : Nat) (hk : k < (runsL ls).length) : preB sd ls (k + 1) = preB sd ls k ++ runB (runAt ls k) := by
  unfold preB runAt
  rw [List.take_add_one, List.getElem?_eq_getElem hk, List.flatMap_append, List.getD_eq_getElem?_getD, List.getElem?_eq_getElem hk, List.append_assoc]
  simp
theorem preB_all (sd : Int) (ls : List (Nat × Nat)) : preB sd ls (runsL ls).length = tapeB sd ls := by
  unfold preB tapeB
  rw [List.take_length]
theorem runs_mem : ∀ (n : Nat) (ls : List (Nat × Nat)), ls.length ≤ n → ∀ x ∈ runsL ls, x.2 ∈ ls
  | n, [], _, x, hx => by simp [runsL_nil] at hx
  | 0, y :: l, h, x, hx => by simp at h
  | n + 1, y :: l, h, x, hx => by
    rw [runsL_cons, List.mem_cons] at hx
    rcases hx with rfl | hx
    · simp
    · have := runs_mem n (l.drop (lead y 254 l)) (by simp at h ⊢; omega) x hx
      exact List.mem_cons_of_mem _ (List.mem_of_mem_drop this)
theorem runAt_bounds {ls : List (Nat × Nat)} (h : ∀ x ∈ ls, x.1 < 65536 ∧ x.2 < 65536) (k : Nat) : (runAt ls k).2.1 < 65536 ∧ (runAt ls k).2.2 < 65536 := by
  unfold runAt
  rw [List.getD_eq_getElem?_getD]
  cases hx : (runsL ls)[k]? with
  | none => simp
  | some x => exact h _ (runs_mem ls.length ls (Nat.le_refl _) x (List.mem_of_getElem? hx))

theorem blk_set0 {w : World} {b : Nat} {t : TypeId} {u : Value} (h : Blk w b t #[u]) (v : Value) : Blk (w.setCell ⟨b, 0, none⟩ v) b t #[v] := by
  have := Blk.set_ h 0 v
  exact this

theorem blk_own {W W' : World} {row : Option Nat} {b : Nat} {t : TypeId} {C : Array Value} (h : Blk W b t C) (hg : W.grownBy W' row) (hr : ∀ r, row = some r → ∃ o : Obj, W.heap[r]? = some o ∧ o.isCells = false) : Blk W' b t C :=
  (grownBy_keeps_cells hg hr h rfl).trans h
theorem on_cells {W : World} {e : TypeId} {size n : Nat} {v : Value} {xs : List Value} (h : On W e size v n xs) {g : Nat} (hg : v.ownBlock = some g) : ∃ o : Obj, W.heap[g]? = some o ∧ o.isCells = true := by
  rcases h.2 with ⟨rfl, _⟩ | ⟨g', cap, cur, rfl, hh, _⟩
  · simp [Value.ownBlock] at hg
  · simp [Value.ownBlock] at hg
    subst hg
    exact ⟨_, hh, rfl⟩
theorem on_own {W W' : World} {row : Option Nat} {e : TypeId} {size n : Nat} {v : Value} {xs : List Value} (h : On W e size v n xs) (hg : W.grownBy W' row) (hr : ∀ r, row = some r → ∃ o : Obj, W.heap[r]? = some o ∧ o.isCells = false) : On W' e size v n xs :=
  h.of_heap fun g hv => by
    obtain ⟨o, ho, hc⟩ := on_cells h hv
    exact grownBy_keeps_cells hg hr ho hc
theorem below_keepB {K : Nat → Prop} {A C : World} (h : Below A.heap.size A C) (hK : ∀ k, K k → k < A.heap.size) : KeepB K A C := fun k hk => h.block k (hK k hk)
theorem below_from {m : Nat} {A C : World} (h : Below A.heap.size A C) : KeepsFrom m A C := ⟨h.size, fun k o _ ho _ => (h.block k (Array.getElem?_eq_some_iff.1 ho).1).trans ho⟩
theorem keepB_set {K : Nat → Prop} {b : Nat} (h : ¬ K b) (o : Nat) (W : World) (v : Value) : KeepB K W (W.setCell ⟨b, o, none⟩ v) := fun k hk => Below.heap_setCell W ⟨b, o, none⟩ v k (fun e => h ((show k = b from e) ▸ hk))
theorem range_snoc {pre : List Nat} {x : Nat} (h : pre ++ [x] = List.range (pre ++ [x]).length) : pre = List.range pre.length ∧ x = pre.length := by
  rw [List.length_append, List.length_singleton, List.range_succ] at h
  have h2 := List.append_inj' h rfl
  exact ⟨h2.1, by simpa using h2.2⟩

/-- What stands between two rounds: the bytes, the box of the slice, the iterator's box. -/
structure RB (W1 : World) (t tb : Nat) (bx : Array Value) (v : Value) (zs : List Int) (W : World) : Prop where
  sl : Blk W t 61 #[v]
  grow : Grow W1 v zs W
  box : Blk W tb 49 bx
theorem RB.own {W1 W W' : World} {t tb : Nat} {bx : Array Value} {v : Value} {zs : List Int} {row : Option Nat} (h : RB W1 t tb bx v zs W) (hg : W.grownBy W' row) (hr : ∀ r, row = some r → W1.heap.size ≤ r ∧ ∃ o : Obj, W.heap[r]? = some o ∧ o.isCells = false) : RB W1 t tb bx v zs W' :=
  ⟨blk_own h.sl hg (fun r e => (hr r e).2), ⟨on_own h.grow.out hg (fun r e => (hr r e).2), h.grow.below.grown hg h.grow.below.size (fun k e => (hr k e).1), h.grow.own⟩, blk_own h.box hg (fun r e => (hr r e).2)⟩
/-- Within a round. -/
structure Rd (W1 : World) (B t tb b : Nat) (bx ib : Array Value) (U : World) (u v : Value) (zs : List Int) (W : World) : Prop where
  sl : Blk W t 61 #[u]
  grow : Grow W1 v zs W
  box : Blk W tb 49 bx
  inp : Blk W b 69 ib
  kf : KeepsFrom B U W
  kb : KeepB (fun k => k < W1.heap.size ∨ k = tb) U W
  tz : W1.heap.size ≤ t
section
variable {W1 : World} {B t tb b : Nat} {bx ib : Array Value} {U : World} {u v : Value} {zs : List Int} {W : World}
theorem Rd.start (h : RB W1 t tb bx v zs W) (hb : Blk W b 69 ib) (hz : W1.heap.size ≤ t) : Rd W1 B t tb b bx ib W v v zs W :=
  ⟨h.sl, h.grow, h.box, hb, KeepsFrom.refl _ _, keepB_refl _, hz⟩
theorem Rd.rb (h : Rd W1 B t tb b bx ib U v v zs W) : RB W1 t tb bx v zs W := ⟨h.sl, h.grow, h.box⟩
theorem Rd.alloc (h : Rd W1 B t tb b bx ib U u v zs W) (o : Obj) : Rd W1 B t tb b bx ib U u v zs (W.alloc o) :=
  have hb : Below W.heap.size W (W.alloc o) := (Below.refl _ W).alloc (Nat.le_refl _) o
  ⟨h.sl.alloc o, h.grow.alloc o, h.box.alloc o, h.inp.alloc o, h.kf.trans (below_from hb), keepB_t h.kb (below_keepB hb (fun k hk => hk.elim (fun e => Nat.lt_of_lt_of_le e h.grow.below.size) (fun e => e ▸ h.box.lt))), h.tz⟩
theorem Rd.drew (h : Rd W1 B t tb b bx ib U u v zs W) : Rd W1 B t tb b bx ib U u v zs W.drew :=
  ⟨h.sl.drew, h.grow.drew, h.box.drew, h.inp.drew, h.kf.trans ⟨Nat.le_refl _, fun _ _ _ ho _ => ho⟩, keepB_t h.kb (fun _ _ => rfl), h.tz⟩
theorem Rd.store (h : Rd W1 B t tb b bx ib U u v zs W) : Rd W1 B t tb b bx ib U v v zs (W.setCell ⟨t, 0, none⟩ v) :=
  ⟨blk_set0 h.sl v, h.grow.set h.sl (by decide) h.tz v 0, h.box.far (Blk.ne_ h.box h.sl (by decide)) v, h.inp.far (Blk.ne_ h.inp h.sl (by decide)) v, h.kf.trans ((KeepsOthers.setCell _ _ _).from _),
    keepB_t h.kb (keepB_set (fun hk => hk.elim (fun e => by have := h.tz; omega) (fun e => Blk.ne_ h.box h.sl (by decide) e.symm)) 0 W v), h.tz⟩
theorem Rd.step (h : Rd W1 B t tb b bx ib U u v zs W) {v' : Value} {ys : List Int} {W' : World} (hs : W.heap.size ≤ W'.heap.size) (hb : ∀ k, k < W.heap.size → v.ownBlock ≠ some k → W'.heap[k]? = W.heap[k]?) (g' : Grow W1 v' ys W') : Rd W1 B t tb b bx ib U u v' ys W' :=
  have kp : ∀ {k : Nat} {T : TypeId} {cs : Array Value}, Blk W k T cs → 5 ≠ T → Blk W' k T cs := fun hk hT => (hb _ hk.lt (On.blk_ne h.grow.out hk hT)).trans hk
  ⟨kp h.sl (by decide), g', kp h.box (by decide), kp h.inp (by decide), h.kf.trans ⟨hs, fun k o _ ho hc => (hb k (Array.getElem?_eq_some_iff.1 ho).1 (fun e => by
      obtain ⟨o', ho', hc'⟩ := on_cells h.grow.out e
      rw [ho] at ho'; cases ho'; rw [hc] at hc'; cases hc')).trans ho⟩,
    keepB_t h.kb (fun k hk => hk.elim (fun e => hb k (Nat.lt_of_lt_of_le e h.grow.below.size) (fun e2 => by have := h.grow.own k e2; omega)) (fun e => by subst e; exact hb _ h.box.lt (On.blk_ne h.grow.out h.box (by decide)))), h.tz⟩
theorem Rd.put (h : Rd W1 B t tb b bx ib U u v zs W) {v' : Value} {ys : List Int} {W' : World} (g' : Grow W1 v' ys W') (ht : Touch (OwnB v) W W') : Rd W1 B t tb b bx ib U u v' ys W' :=
  h.step ht.size (fun k hk hn => ht.block k hk hn) g'
theorem Rd.app (h : Rd W1 B t tb b bx ib U u v zs W) {v' : Value} {ys : List Int} {W' : World} (hon : Out W' v' ys) (hg : W.grownBy W' v.ownBlock) (hv : v'.ownBlock = v.ownBlock ∨ v'.ownBlock = some W.heap.size) : Rd W1 B t tb b bx ib U u v' ys W' :=
  h.step hg.size (fun k hk hn => hg.block k hk (fun e => hn e.symm)) ⟨hon, h.grow.below.grown hg h.grow.below.size (fun k e => h.grow.own k e), fun g e => by
    rcases hv with hv | hv
    · exact h.grow.own g (hv ▸ e)
    · rw [hv] at e; cases e; exact h.grow.below.size⟩
end
end Go.Proofs.Ytlhoffhagfhbcaa.Spe
