/-
  Texts joined: SpR. No condition.
-/
import Derived.Test.YtlhoffhagfhbcaaBDiff12
import Derived.Laws.BitsAllLaws
namespace Go.Proofs.Ytlhoffhagfhbcaa.Spe
open Go.RowKit Go.Proofs.Ytlhoffhagfhbcaa.Byt Go.Proofs.Ytlhoffhagfhbcaa.Gm
set_option linter.all false

/-- Runs, laid out. -/
def expL (cs : List (Nat × (Nat × Nat))) : List (Nat × Nat) := cs.flatMap fun c => List.replicate c.1 c.2
def Bd (c : Nat × (Nat × Nat)) : Prop := 1 ≤ c.1 ∧ c.1 ≤ 255 ∧ c.2.1 < 65536 ∧ c.2.2 < 65536
/-- Runs in the one form. -/
def Canon : List (Nat × (Nat × Nat)) → Prop
  | [] => True
  | c :: l => Bd c ∧ (∀ d, l.head? = some d → c.1 < 255 → d.2 ≠ c.2) ∧ Canon l
theorem canon_snoc : ∀ {cs : List (Nat × (Nat × Nat))} {c : Nat × (Nat × Nat)}, Canon cs → Bd c → (∀ d, cs.getLast? = some d → d.1 < 255 → c.2 ≠ d.2) → Canon (cs ++ [c])
  | [], c, _, hb, _ => ⟨hb, fun d hd => by simp at hd, trivial⟩
  | e :: cs, c, h, hb, hl => by
    obtain ⟨h1, h2, h3⟩ := h
    refine ⟨h1, fun d hd => ?_, canon_snoc h3 hb (fun d hd hlt => hl d ?_ hlt)⟩
    · cases cs with
      | nil =>
        simp at hd
        subst hd
        exact hl e (by simp)
      | cons f cs => exact h2 d (by simpa using hd)
    · cases cs with
      | nil => simp at hd
      | cons f cs => rw [List.getLast?_cons_cons]; exact hd
theorem canon_bd : ∀ {cs : List (Nat × (Nat × Nat))}, Canon cs → ∀ c ∈ cs, Bd c
  | [], _, c, hc => by simp at hc
  | e :: cs, h, c, hc => by
    rcases List.mem_cons.1 hc with rfl | hc
    · exact h.1
    · exact canon_bd h.2.2 c hc
theorem expL_cons (c : Nat × (Nat × Nat)) (l : List (Nat × (Nat × Nat))) : expL (c :: l) = List.replicate c.1 c.2 ++ expL l := by simp [expL]
theorem expL_app (k l : List (Nat × (Nat × Nat))) : expL (k ++ l) = expL k ++ expL l := by simp [expL]
theorem expL_snoc (k : List (Nat × (Nat × Nat))) (c : Nat × (Nat × Nat)) : expL (k ++ [c]) = expL k ++ List.replicate c.1 c.2 := by simp [expL]
theorem expL_head : ∀ {cs : List (Nat × (Nat × Nat))}, Canon cs → (expL cs).head? = cs.head?.map (·.2)
  | [], _ => rfl
  | e :: cs, h => by
    obtain ⟨⟨h1, _⟩, _⟩ := h
    rw [expL_cons]
    obtain ⟨k, hk⟩ : ∃ k, e.1 = k + 1 := ⟨e.1 - 1, by omega⟩
    rw [hk, List.replicate_succ]
    simp
theorem expL_last {cs : List (Nat × (Nat × Nat))} {d : Nat × (Nat × Nat)} (hd : cs.getLast? = some d) (h1 : 1 ≤ d.1) : (expL cs).getLast? = some d.2 := by
  obtain ⟨ys, rfl⟩ : ∃ ys, cs = ys ++ [d] := ⟨cs.dropLast, by
    have hne : cs ≠ [] := by rintro rfl; simp at hd
    rw [List.getLast?_eq_getLast hne] at hd
    rw [← Option.some.inj hd]
    exact (List.dropLast_concat_getLast hne).symm⟩
  rw [expL_snoc]
  obtain ⟨k, hk⟩ : ∃ k, d.1 = k + 1 := ⟨d.1 - 1, by omega⟩
  rw [hk, List.replicate_succ']
  simp
theorem lead_rep (x : Nat × Nat) : ∀ (k m : Nat) (E : List (Nat × Nat)), k ≤ m → (m = k ∨ E.head? ≠ some x) → lead x m (List.replicate k x ++ E) = k
  | 0, m, E, _, h => by
    simp only [List.replicate_zero, List.nil_append]
    cases E with
    | nil => exact lead_nil x m
    | cons y l =>
      rcases h with rfl | h
      · exact lead_zero x _
      · exact lead_no m l (fun e => h (by simp [e]))
  | k + 1, m, E, hm, h => by
    obtain ⟨m', rfl⟩ : ∃ m', m = m' + 1 := ⟨m - 1, by omega⟩
    rw [List.replicate_succ, List.cons_append, lead_yes, lead_rep x k m' E (by omega) (h.imp (by omega) id)]
theorem canon_runs : ∀ {cs : List (Nat × (Nat × Nat))}, Canon cs → runsL (expL cs) = cs
  | [], _ => rfl
  | c :: l, h => by
    obtain ⟨⟨h1, h2, _⟩, hn, hc⟩ := h
    rw [expL_cons]
    obtain ⟨n, x⟩ := c
    obtain ⟨k, rfl⟩ : ∃ k, n = k + 1 := ⟨n - 1, by simp at h1; omega⟩
    simp only at h1 h2 hn ⊢
    have hl : lead x 254 (List.replicate k x ++ expL l) = k := lead_rep x k 254 _ (by omega) (by
      by_cases hk : k = 254
      · exact .inl hk.symm
      · refine .inr fun e => ?_
        rw [expL_head hc] at e
        cases hh : l.head? with
        | none => rw [hh] at e; cases e
        | some d =>
          rw [hh] at e
          exact hn d hh (by omega) (by simpa using e))
    rw [List.replicate_succ, List.cons_append, runsL_cons, hl, List.drop_left' (by simp), canon_runs hc, Nat.add_comm]
theorem lead_next (x : Nat × Nat) : ∀ (m : Nat) (l : List (Nat × Nat)), lead x m l < m → (l.drop (lead x m l)).head? ≠ some x
  | 0, l, h => by omega
  | m + 1, [], h => by simp [lead_nil]
  | m + 1, y :: l, h => by
    by_cases e : y = x
    · subst e
      rw [lead_yes] at h ⊢
      rw [List.drop_succ_cons]
      exact lead_next y m l (by omega)
    · rw [lead_no _ _ e]
      simpa using e
theorem lead_split (x : Nat × Nat) : ∀ (m : Nat) (l : List (Nat × Nat)), List.replicate (lead x m l) x ++ l.drop (lead x m l) = l
  | 0, l => by simp [lead_zero]
  | m + 1, [] => by simp [lead_nil]
  | m + 1, y :: l => by
    by_cases e : y = x
    · subst e
      rw [lead_yes, List.replicate_succ, List.drop_succ_cons, List.cons_append, lead_split y m l]
    · rw [lead_no _ _ e]; simp
theorem runs_head : ∀ (l : List (Nat × Nat)), (runsL l).head?.map (·.2) = l.head?
  | [] => rfl
  | x :: l => by rw [runsL_cons]; rfl
theorem runs_canon : ∀ (n : Nat) (ls : List (Nat × Nat)), ls.length ≤ n → (∀ x ∈ ls, x.1 < 65536 ∧ x.2 < 65536) → Canon (runsL ls) ∧ expL (runsL ls) = ls
  | n, [], _, _ => ⟨trivial, rfl⟩
  | 0, x :: l, h, _ => by simp at h
  | n + 1, x :: l, h, hb => by
    obtain ⟨i1, i2⟩ := runs_canon n (l.drop (lead x 254 l)) (by simp at h ⊢; omega) (fun y hy => hb y (List.mem_cons_of_mem _ (List.mem_of_mem_drop hy)))
    have hx := hb x (by simp)
    have hle := (lead_le x 254 l).1
    rw [runsL_cons]
    refine ⟨⟨⟨by simp, by simp; omega, hx.1, hx.2⟩, fun d hd hlt e => ?_, i1⟩, ?_⟩
    · have := runs_head (l.drop (lead x 254 l))
      rw [hd] at this
      simp only [Option.map_some] at this
      refine lead_next x 254 l (by simp at hlt; omega) ?_
      rw [← this, e]
    · rw [expL_cons, i2]
      simp only
      rw [Nat.add_comm, List.replicate_succ, List.cons_append, lead_split]
theorem be2_inj {a b : Nat} (ha : a < 65536) (hb : b < 65536) (h : be2 (a : Int) = be2 (b : Int)) : a = b := by
  simp [be2] at h
  omega
theorem runB_inj {c d : Nat × (Nat × Nat)} {s t : List Int} (hc : Bd c) (hd : Bd d) (h : runB c ++ s = runB d ++ t) : c = d ∧ s = t := by
  obtain ⟨e1, e2⟩ := List.append_inj h (by rw [runB_len, runB_len])
  refine ⟨?_, e2⟩
  obtain ⟨n, x, y⟩ := c
  obtain ⟨m, u, v⟩ := d
  obtain ⟨c1, c2, c3, c4⟩ := hc
  obtain ⟨d1, d2, d3, d4⟩ := hd
  simp [runB, be2] at e1 c1 c2 c3 c4 d1 d2 d3 d4
  rw [Prod.mk.injEq, Prod.mk.injEq]
  omega
theorem runs_split : ∀ (cs rs : List (Nat × (Nat × Nat))) (rest : List Int), (∀ c ∈ cs, Bd c) → (∀ c ∈ rs, Bd c) → rs.flatMap runB = cs.flatMap runB ++ rest → ∃ ds, rs = cs ++ ds ∧ rest = ds.flatMap runB
  | [], rs, rest, _, _, h => ⟨rs, rfl, by simpa using h.symm⟩
  | c :: cs, [], rest, _, _, h => by
    exfalso
    have := congrArg List.length h
    rw [List.flatMap_cons, List.append_assoc, List.length_append, runB_len, List.flatMap_nil, List.length_nil] at this
    omega
  | c :: cs, r :: rs, rest, hc, hr, h => by
    rw [List.flatMap_cons, List.flatMap_cons, List.append_assoc] at h
    obtain ⟨rfl, h2⟩ := runB_inj (hr r (by simp)) (hc c (by simp)) h
    obtain ⟨ds, rfl, e⟩ := runs_split cs rs rest (fun x hx => hc x (by simp [hx])) (fun x hx => hr x (by simp [hx])) h2
    exact ⟨ds, rfl, e⟩
theorem be4_inj {a b : Int} (ha : 0 ≤ a ∧ a < 4294967296) (hb : 0 ≤ b ∧ b < 4294967296) (h : be4 a = be4 b) : a = b := by
  simp [be4] at h
  omega
/-- A list of inputs that a tape may hold. -/
def InB (ls : List (Nat × Nat)) : Prop := ∀ x ∈ ls, x.1 < 65536 ∧ x.2 < 65536
theorem tape_head {sd sd' : Int} {ls : List (Nat × Nat)} {n : Nat} {X : List Int} (h0 : 0 ≤ sd ∧ sd < 4294967296) (h1 : 0 ≤ sd' ∧ sd' < 4294967296) (hl : ls.length < 4294967296) (hn : n < 4294967296)
    (h : tapeB sd ls = headB sd' n ++ X) : sd = sd' ∧ ls.length = n ∧ (runsL ls).flatMap runB = X := by
  unfold tapeB at h
  obtain ⟨e1, e2⟩ := List.append_inj h (by simp [headB, be2, be4])
  unfold headB at e1
  obtain ⟨e3, e4⟩ := List.append_inj e1 (by simp [be2, be4])
  obtain ⟨_, e5⟩ := List.append_inj e3 (by simp [be2])
  have := be4_inj ⟨by omega, by omega⟩ ⟨by omega, by omega⟩ e4
  exact ⟨be4_inj h0 h1 e5, by omega, e2⟩
/-- If the bytes are a tape's, then what is read so far is its first runs. -/
theorem tape_pre {sd sd' : Int} {ls : List (Nat × Nat)} {n : Nat} {cs : List (Nat × (Nat × Nat))} {rest : List Int} (h0 : 0 ≤ sd ∧ sd < 4294967296) (h1 : 0 ≤ sd' ∧ sd' < 4294967296) (hl : ls.length < 4294967296) (hn : n < 4294967296) (hb : InB ls) (hc : ∀ c ∈ cs, Bd c)
    (h : tapeB sd ls = headB sd' n ++ (cs.flatMap runB ++ rest)) : sd = sd' ∧ ls.length = n ∧ ∃ ds, Canon (cs ++ ds) ∧ rest = ds.flatMap runB ∧ expL cs ++ expL ds = ls ∧ runsL ls = cs ++ ds := by
  obtain ⟨e1, e2, e3⟩ := tape_head h0 h1 hl hn h
  obtain ⟨c1, c2⟩ := runs_canon ls.length ls (Nat.le_refl _) hb
  obtain ⟨ds, e4, e5⟩ := runs_split cs _ rest hc (canon_bd c1) e3
  exact ⟨e1, e2, ds, e4 ▸ c1, e5, by rw [← expL_app, ← e4, c2], e4⟩
theorem canon_next : ∀ {cs : List (Nat × (Nat × Nat))} {c e : Nat × (Nat × Nat)} {ds : List (Nat × (Nat × Nat))}, Canon (cs ++ c :: ds) → cs.getLast? = some e → e.1 < 255 → c.2 ≠ e.2
  | [], c, e, ds, _, h => by simp at h
  | [x], c, e, ds, hc, h => by
    simp at h
    subst h
    exact hc.2.1 c (by simp)
  | x :: y :: cs, c, e, ds, hc, h => by
    rw [List.getLast?_cons_cons] at h
    exact canon_next hc.2.2 h
theorem rest_cases {ds : List (Nat × (Nat × Nat))} {rest : List Int} (h : rest = ds.flatMap runB) (hr : 0 < rest.length) : ∃ d l, ds = d :: l ∧ rest = runB d ++ l.flatMap runB := by
  cases ds with
  | nil => simp at h; subst h; simp at hr
  | cons d l => exact ⟨d, l, rfl, by rw [h, List.flatMap_cons]⟩
end Go.Proofs.Ytlhoffhagfhbcaa.Spe
namespace Go.Proofs.Ytlhoffhagfhbcaa.Spe
open Go.RowKit Go.Proofs.Ytlhoffhagfhbcaa.Crc
set_option linter.all false

def getN (l : List Nat) : Nat := l.foldl (fun w b => w * 256 + b) 0
theorem getN_snoc (l : List Nat) (b : Nat) : getN (l ++ [b]) = getN l * 256 + b := by simp [getN]
theorem getN_lt : ∀ (n : Nat) (l : List Nat), l.length = n → (∀ b ∈ l, b < 256) → getN l < 256 ^ n
  | 0, l, h, _ => by obtain rfl := List.eq_nil_of_length_eq_zero h; simp [getN]
  | n + 1, l, h, hb => by
    have hne : l ≠ [] := by rintro rfl; simp at h
    obtain ⟨k, b, rfl⟩ : ∃ k b, l = k ++ [b] := ⟨l.dropLast, l.getLast hne, (List.dropLast_concat_getLast hne).symm⟩
    rw [getN_snoc]
    have h1 := getN_lt n k (by simp at h; omega) (fun x hx => hb x (by simp [hx]))
    have h2 := hb b (by simp)
    rw [Nat.pow_succ]
    omega
theorem getN_lt4 {l : List Nat} (h : l.length ≤ 4) (hb : ∀ b ∈ l, b < 256) : getN l < 4294967296 := by
  have := getN_lt l.length l rfl hb
  have h2 : 256 ^ l.length ≤ 256 ^ 4 := Nat.pow_le_pow_right (by omega) h
  omega
theorem or_256 (y b : Nat) (hy : y < 16777216) (hb : b < 256) : bits .or .u64 (((y * 256 : Nat)) : Int) (b : Int) = ((y * 256 + b : Nat) : Int) := by
  have := u64_or_nat (y * 256) b (by omega) (by omega)
  rw [this]
  congr 1
  have h2 := Nat.two_pow_add_eq_or_of_lt (i := 8) (b := b) (by omega) y
  rw [show y * 256 = 2 ^ 8 * y by omega]
  exact h2.symm

set_option maxRecDepth 100000 in
set_option maxHeartbeats 2000000 in
theorem get_any (w : World) (a : Option Addr) (len c : Nat) (zs : List Int) (hrow : Row .u8 w a len zs) (hz : ∀ z ∈ zs, 0 ≤ z ∧ z < 256) (hl : len ≤ 4) (hc : len ≤ c) (hc2 : c ≤ 9223372036854775807) :
    Calls Try.prog 94 #[.slice a len c] w fun e w' => e = .returned (.int .u64 (getN (nb zs) : Nat)) ∧ w = w' := by
  have hzl := hrow.1
  have i1 : ¬ (8 : Int) < (len : Int) := by omega
  have i2 : (if (8 : Int) < (len : Int) then (8 : Int) else (len : Int)) = (len : Int) := by rw [if_neg i1]
  have i3 : (len : Int) ≤ (c : Int) := by omega
  go_enter Try.func94, Try.ntmps94
  go_wp2_with fail
  go_loopw [3, 12] (fun r i wr => ∃ k y : Nat, k ≤ len ∧ i = .int .i64 (k : Int) ∧ r = .int .u64 (y : Int) ∧ y = getN (nb (zs.take k)) ∧ wr = w) (fun _ i _ => ((len : Int) - intOf i).toNat)
  case atStart => exact ⟨0, 0, by omega, rfl, rfl, rfl, rfl⟩
  case round =>
    obtain ⟨k, y, hk, rfl, rfl, hy, rfl⟩ := hrel
    by_cases hlt : k < len
    · have hlt' : (k : Int) < (len : Int) := by omega
      have hk0 : (0 : Int) ≤ (k : Int) := by omega
      have hyl : y < 16777216 := by
        have hl3 : (nb (zs.take k)).length ≤ 3 := by simp [nb]; omega
        have := getN_lt (nb (zs.take k)).length _ rfl (fun b hb => nb_lt hz b (by
          unfold nb at hb ⊢
          obtain ⟨z, hz', rfl⟩ := List.mem_map.1 hb
          exact List.mem_map.2 ⟨z, List.mem_of_mem_take hz', rfl⟩))
        have h2 : 256 ^ (nb (zs.take k)).length ≤ 256 ^ 3 := Nat.pow_le_pow_right (by omega) hl3
        omega
      obtain ⟨b0, off, rfl, hbl, hcell⟩ := hrow.2 (by omega)
      have hc := hcell k hlt
      have hb := nth_in hz (k := k) (by omega)
      obtain ⟨b, hbb⟩ : ∃ b : Nat, nth zs k = (b : Int) := ⟨(nth zs k).toNat, by omega⟩
      rw [hbb] at hc hb
      have hb256 : b < 256 := by omega
      have hx1 : bits .or .u64 ((y : Int) * 256) (b : Int) = ((y * 256 + b : Nat) : Int) := or_256 y b hyl hb256
      have hw1 : IntKind.u64.wrap (b : Int) = (b : Int) := by simp [IntKind.wrap, IntKind.bits, IntKind.signed]; omega
      have hw2 : IntKind.u64.wrap ((y : Int) * 256) = ((y * 256 : Nat) : Int) := by simp [IntKind.wrap, IntKind.bits, IntKind.signed]; omega
      have HZ : Hid (y * 256 + b = getN (nb (zs.take (k + 1)))) := Lib.hid (by
        rw [nb_take zs k (by omega), getN_snoc, ← hy, hbb]
        rfl)
      clear hy hcell hbb
      go_wp2_with fail
      exact ⟨⟨k + 1, y * 256 + b, by omega, by simp, rfl, HZ.out, trivial⟩, by simp [intOf]; omega⟩
    · obtain rfl : k = len := by omega
      have HY : Hid (y = getN (nb zs)) := Lib.hid (by rw [hy, List.take_of_length_le (by omega)])
      clear hy
      go_wp2_with fail
      go_ret
      exact ⟨ret_int (by rw [HY.out]), rfl⟩

set_option maxRecDepth 100000 in
set_option maxHeartbeats 2000000 in
theorem rget_any (w : World) (a : Option Addr) (len c : Nat) (zs : List Int) (hrow : Row .u8 w a len zs) (hz : ∀ z ∈ zs, 0 ≤ z ∧ z < 256) (hl : len ≤ 4) :
    Calls Try.prog 98 #[.slice a len c] w fun e w' => e = .returned (.int .u64 (getN (nb zs) : Nat)) ∧ w = w' := by
  have hzl := hrow.1
  go_enter Try.func98, Try.ntmps98
  go_wp2_with fail
  go_loopw [3, 4] (fun r i wr => ∃ k y : Nat, k ≤ len ∧ i = .int .i64 (k : Int) ∧ r = .int .u64 (y : Int) ∧ y = getN (nb (zs.take k)) ∧ wr = w) (fun _ i _ => ((len : Int) - intOf i).toNat)
  case atStart => exact ⟨0, 0, by omega, rfl, rfl, rfl, rfl⟩
  case round =>
    obtain ⟨k, y, hk, rfl, rfl, hy, rfl⟩ := hrel
    by_cases hlt : k < len
    · have hlt' : (k : Int) < (len : Int) := by omega
      have hk8 : (k : Int) < 8 := by omega
      have hk0 : (0 : Int) ≤ (k : Int) := by omega
      have hyl : y < 16777216 := by
        have hl3 : (nb (zs.take k)).length ≤ 3 := by simp [nb]; omega
        have := getN_lt (nb (zs.take k)).length _ rfl (fun b hb => nb_lt hz b (by
          unfold nb at hb ⊢
          obtain ⟨z, hz', rfl⟩ := List.mem_map.1 hb
          exact List.mem_map.2 ⟨z, List.mem_of_mem_take hz', rfl⟩))
        have h2 : 256 ^ (nb (zs.take k)).length ≤ 256 ^ 3 := Nat.pow_le_pow_right (by omega) hl3
        omega
      obtain ⟨b0, off, rfl, hbl, hcell⟩ := hrow.2 (by omega)
      have hc := hcell k hlt
      have hb := nth_in hz (k := k) (by omega)
      obtain ⟨b, hbb⟩ : ∃ b : Nat, nth zs k = (b : Int) := ⟨(nth zs k).toNat, by omega⟩
      rw [hbb] at hc hb
      have hb256 : b < 256 := by omega
      have hw1 : IntKind.u64.wrap (b : Int) = (b : Int) := by simp [IntKind.wrap, IntKind.bits, IntKind.signed]; omega
      have hw2 : IntKind.u64.wrap ((y : Int) * 256) = (y : Int) * 256 := by simp [IntKind.wrap, IntKind.bits, IntKind.signed]; omega
      have hw3 : IntKind.u64.wrap ((y : Int) * 256 + (b : Int)) = ((y * 256 + b : Nat) : Int) := by simp [IntKind.wrap, IntKind.bits, IntKind.signed]; omega
      have HZ : Hid (y * 256 + b = getN (nb (zs.take (k + 1)))) := Lib.hid (by
        rw [nb_take zs k (by omega), getN_snoc, ← hy, hbb]
        rfl)
      clear hy hcell hbb
      go_wp2_with fail
      exact ⟨⟨k + 1, y * 256 + b, by omega, by simp, rfl, HZ.out, trivial⟩, by simp [intOf]; omega⟩
    · obtain rfl : k = len := by omega
      have HY : Hid (y = getN (nb zs)) := Lib.hid (by rw [hy, List.take_of_length_le (by omega)])
      clear hy
      go_wp2_with fail
      go_ret
      exact ⟨ret_int (by rw [HY.out]), rfl⟩

theorem nth_ext {xs ys : List Int} (hl : xs.length = ys.length) (h : ∀ k, k < xs.length → nth xs k = nth ys k) : xs = ys := by
  refine List.ext_getElem hl fun k h1 h2 => ?_
  have := h k h1
  simpa [nth, List.getD, h1, h2] using this

set_option maxRecDepth 100000 in
set_option maxHeartbeats 2000000 in
theorem same_any (w : World) (a b : Option Addr) (l l' c c' : Nat) (xs ys : List Int) (ha : Row .u8 w a l xs) (hb : Row .u8 w b l' ys) (hl : l ≤ 9223372036854775807) (hl' : l' ≤ 9223372036854775807) :
    Calls Try.prog 30 #[.slice a l c, .slice b l' c'] w fun e w' => e = .returned (.bool (decide (xs = ys))) ∧ Below w.heap.size w w' := by
  have hx := ha.1
  have hy := hb.1
  by_cases hne : l = l'
  · subst hne
    go_enter Try.func30, Try.ntmps30
    go_wp2_with fail
    go_loopw [5] (fun i wr => ∃ k : Nat, k ≤ l ∧ i = .int .i64 k ∧ (∀ j, j < k → nth xs j = nth ys j) ∧ ∃ nn, wr = w.drewN nn) (fun i _ => l - (intOf i).toNat)
    case atStart => exact ⟨0, Nat.zero_le _, rfl, fun j hj => absurd hj (Nat.not_lt_zero _), 0, rfl⟩
    case round =>
      obtain ⟨k, hk, rfl, heq, nn, rfl⟩ := hrel
      by_cases hlt : k < l
      · obtain ⟨ga, oa, rfl, hga, ca⟩ := ha.2 (by omega)
        obtain ⟨gb, ob, rfl, hgb, cb⟩ := hb.2 (by omega)
        have r1 := ca k hlt
        have r2 := cb k hlt
        have i1 : (0 : Int) ≤ (k : Int) := by omega
        have i2 : (k : Int) < (l : Int) := by omega
        clear ca cb ha hb
        by_cases hv : nth xs k = nth ys k
        · have HE := Lib.hid (show ∀ j, j < k + 1 → nth xs j = nth ys j from fun j hj => by
            rcases Nat.lt_or_ge j k with h | h
            · exact heq j h
            · obtain rfl : j = k := by omega
              exact hv)
          rw [← hv] at r2
          clear heq hv
          generalize nth xs k = vv at r1 r2
          go_wp2_with fail
          go_quiet (fail)
          go_wp2_with fail
          go_roundw
          case rel => exact ⟨k + 1, by omega, by go_num, HE.out, _, rfl⟩
          case measure => simp [intOf]; omega
        · have HD := Lib.hid (show decide (xs = ys) = false from decide_eq_false fun e => hv (by rw [e]))
          clear heq
          generalize nth xs k = vv at r1 hv
          generalize nth ys k = uu at r2 hv
          go_wp2_with fail
          go_quiet (fail)
          go_wp2_with fail
          go_ret
          exact ⟨ret_bool (by rw [HD.out]), below_drewN (below_drewN (Below.refl _ _) _) _⟩
      · obtain rfl : k = l := by omega
        have HD := Lib.hid (show decide (xs = ys) = true from decide_eq_true (nth_ext (by omega) fun j hj => heq j (by omega)))
        clear heq
        go_wp2_with fail
        go_ret
        exact ⟨ret_bool (by rw [HD.out]), below_drewN (Below.refl _ _) _⟩
  · have i1 : (l : Int) ≠ (l' : Int) := by omega
    have HD := Lib.hid (show decide (xs = ys) = false from decide_eq_false fun e => hne (by rw [← hx, ← hy, e]))
    clear hx hy hne
    go_enter Try.func30, Try.ntmps30
    go_wp2_with fail
    go_ret
    exact ⟨ret_bool (by rw [HD.out]), Below.refl _ _⟩
end Go.Proofs.Ytlhoffhagfhbcaa.Spe
namespace Go.Proofs.Ytlhoffhagfhbcaa.Spe
open Go.RowKit Go.Proofs.Ytlhoffhagfhbcaa.Byt Go.Proofs.Ytlhoffhagfhbcaa.Gm Go.Proofs.Ytlhoffhagfhbcaa.Crc
set_option linter.all false

def openC (zs : List Int) : Int := if zs.length < 4 then 70 else if sealB (zs.take (zs.length - 4)) = zs then 0 else 20
def openL (zs : List Int) : List Int := if openC zs = 0 then zs.take (zs.length - 4) else []
theorem le4_num (s b0 b1 b2 b3 : Nat) (hs : s < 4294967296) (h0 : b0 < 256) (h1 : b1 < 256) (h2 : b2 < 256) (h3 : b3 < 256) :
    le4 (s : Int) = [(b0 : Int), (b1 : Int), (b2 : Int), (b3 : Int)] ↔ getN [b3, b2, b1, b0] = s := by
  simp [le4, getN]
  omega
theorem open_iff {zs : List Int} (hz : ∀ z ∈ zs, 0 ≤ z ∧ z < 256) {n : Nat} (hn : zs.length = n + 4) :
    sealB (zs.take n) = zs ↔ getN (nb [nth zs (n + 3), nth zs (n + 2), nth zs (n + 1), nth zs n]) = sumN (nb (zs.take n)) := by
  have hd : zs.drop n = [nth zs n, nth zs (n + 1), nth zs (n + 2), nth zs (n + 3)] := by
    refine List.ext_getElem (by simp [hn]) fun k h1 h2 => ?_
    simp at h2
    rw [List.getElem_drop]
    match k, h2 with
    | 0, _ => simp [nth, List.getD, show n < zs.length by omega]
    | 1, _ => simp [nth, List.getD, show n + 1 < zs.length by omega]
    | 2, _ => simp [nth, List.getD, show n + 2 < zs.length by omega]
    | 3, _ => simp [nth, List.getD, show n + 3 < zs.length by omega]
  have b0 := nth_in hz (k := n) (by omega)
  have b1 := nth_in hz (k := n + 1) (by omega)
  have b2 := nth_in hz (k := n + 2) (by omega)
  have b3 := nth_in hz (k := n + 3) (by omega)
  have hs : sumN (nb (zs.take n)) < 4294967296 := sumN_lt (nb_lt fun z h => hz z (List.mem_of_mem_take h))
  generalize nth zs n = y0 at *
  generalize nth zs (n + 1) = y1 at *
  generalize nth zs (n + 2) = y2 at *
  generalize nth zs (n + 3) = y3 at *
  have h := le4_num (sumN (nb (zs.take n))) y0.toNat y1.toNat y2.toNat y3.toNat hs (by omega) (by omega) (by omega) (by omega)
  rw [Int.toNat_of_nonneg b0.1, Int.toNat_of_nonneg b1.1, Int.toNat_of_nonneg b2.1, Int.toNat_of_nonneg b3.1, ← hd] at h
  show _ ↔ getN [y3.toNat, y2.toNat, y1.toNat, y0.toNat] = _
  rw [← h]
  unfold sealB
  constructor
  · intro e
    have e2 := e.trans (List.take_append_drop n zs).symm
    exact (List.append_inj_right e2 rfl)
  · intro e
    rw [e, List.take_append_drop]

theorem out_rowc {w : World} {v : Value} {xs : List Int} (h : Out w v xs) : ∃ a c, v = .slice a xs.length c ∧ xs.length ≤ c ∧ c ≤ 9223372036854775807 ∧ Row .u8 w a xs.length xs := by
  rcases On.form h with ⟨rfl, hn, hx⟩ | ⟨g, cap, rfl, hnc, hcm, how, hgl, hcell, hfr⟩
  · exact ⟨none, 0, by rw [hn], by omega, by omega, rfl, fun hp => by omega⟩
  · refine ⟨_, _, rfl, hnc, by simp only [maxLen] at hcm; omega, rfl, fun hp => ⟨g, 0, rfl, hgl, fun j hj => ?_⟩⟩
    rw [Nat.zero_add]
    exact hcell j _ (by unfold ub; rw [List.getElem?_map, show xs[j]? = some (nth xs j) by simp [nth, List.getD, hj]]; rfl)

set_option maxRecDepth 100000 in
set_option maxHeartbeats 4000000 in
theorem copen_any (w : World) (g : Nat) (hT : Crc.Rows w g 256) (a : Option Addr) (len c : Nat) (zs : List Int) (hrow : Row .u8 w a len zs) (hz : ∀ z ∈ zs, 0 ≤ z ∧ z < 256) (hl : len ≤ 1000000) (hc : len ≤ c) (hc2 : c ≤ 9223372036854775807) :
    Calls Try.prog 93 #[.pointer (some ⟨g, 0, none⟩), .slice a len c] w fun e w' => ∃ a' c', e = .returned (.tuple #[.slice a' (openL zs).length c', .int .i64 (openC zs)]) ∧ (openL zs).length ≤ c' ∧ c' ≤ 9223372036854775807 ∧ Row .u8 w' a' (openL zs).length (openL zs) ∧ Below w.heap.size w w' := by
  have hzl := hrow.1
  obtain ⟨i0, hi, hz0, hz1, hz2⟩ := info_parts info8
  by_cases h4 : len < 4
  · have e1 : openC zs = 70 := by unfold openC; rw [if_pos (by omega)]
    have e2 : openL zs = [] := by unfold openL; rw [e1]; rfl
    have E1 := Lib.hid e1
    have E2 := Lib.hid e2
    have hw : IntKind.i64.wrap ((len : Int) - 4) = (len : Int) - 4 := IntWalk.i64_in _ (by omega)
    have hi : (len : Int) < 4 := by omega
    have hi2 : (len : Int) - 4 < 0 := by omega
    clear e1 e2 hT hrow
    go_enter Try.func93, Try.ntmps93
    go_wp2_with fail
    go_ret2
    rw [E1.out, E2.out]
    exact ⟨none, 0, rfl, Nat.le_refl _, by omega, ⟨rfl, fun h => absurd h (Nat.not_lt_zero _)⟩, Below.refl _ _⟩
  · obtain ⟨n, hn⟩ : ∃ n, len = n + 4 := ⟨len - 4, by omega⟩
    have hw : IntKind.i64.wrap ((len : Int) - 4) = (n : Int) := by rw [IntWalk.i64_in _ (by omega)]; omega
    have hi0 : (0 : Int) ≤ (n : Int) := by omega
    have hi1 : (n : Int) ≤ (len : Int) := by omega
    have hi2 : (len : Int) ≤ (c : Int) := by omega
    have hi3 : (n : Int) ≤ (c : Int) := by omega
    have hln : len - n = 4 := by omega
    obtain ⟨b, off, rfl, hbl, hcell⟩ := hrow.2 (by omega)
    have q0 := hcell n (by omega)
    have q1 : w.cell? ⟨b, off + n + 1, none⟩ = some (.int .u8 (nth zs (n + 1))) := by rw [Nat.add_assoc]; exact hcell (n + 1) (by omega)
    have q2 : w.cell? ⟨b, off + n + 2, none⟩ = some (.int .u8 (nth zs (n + 2))) := by rw [Nat.add_assoc]; exact hcell (n + 2) (by omega)
    have q3 : w.cell? ⟨b, off + n + 3, none⟩ = some (.int .u8 (nth zs (n + 3))) := by rw [Nat.add_assoc]; exact hcell (n + 3) (by omega)
    clear hcell
    have HN := Lib.hid hn
    have HROW := Lib.hid hrow
    have HT := Lib.hid hT
    clear hn hT hrow
    go_enter Try.func93, Try.ntmps93
    go_upto_region 5 with fail
    have HGB := nth_in hz (k := n) (by omega)
    have HGB1 := nth_in hz (k := n + 1) (by omega)
    have HGB2 := nth_in hz (k := n + 2) (by omega)
    have HGB3 := nth_in hz (k := n + 3) (by omega)
    have HIFF := Lib.hid (open_iff hz (n := n) (by have := HN.out; omega))
    have hy : ∀ z ∈ [nth zs (n + 3), nth zs (n + 2), nth zs (n + 1), nth zs n], 0 ≤ z ∧ z < 256 := by
      intro z h
      simp at h
      rcases h with rfl | rfl | rfl | rfl
      · exact HGB3
      · exact HGB2
      · exact HGB1
      · exact HGB
    have pG' : ∀ W : World, Blk W w.heap.size 5 #[.int .u8 (nth zs (n + 3)), .int .u8 (nth zs (n + 2)), .int .u8 (nth zs (n + 1)), .int .u8 (nth zs n)] → Calls Try.prog 94 #[.slice (some ⟨w.heap.size, 0, none⟩) 4 4] W fun e w' => e = .returned (.int .u64 (getN (nb [nth zs (n + 3), nth zs (n + 2), nth zs (n + 1), nth zs n]) : Nat)) ∧ W = w' := fun W X =>
      get_any _ _ 4 4 _ ⟨rfl, fun _ => ⟨w.heap.size, 0, rfl, X.lt, fun j hj => by
        rw [Nat.zero_add, X.cell]
        match j, hj with
        | 0, _ => rfl
        | 1, _ => rfl
        | 2, _ => rfl
        | 3, _ => rfl⟩⟩ hy (by omega) (by omega) (by omega)
    have hown : ∀ z ∈ zs.take n, 0 ≤ z ∧ z < 256 := fun z h => hz z (List.mem_of_mem_take h)
    have hrt : ∀ {W : World}, Row .u8 W (some ⟨b, off, none⟩) len zs → Row .u8 W (some ⟨b, off, none⟩) n (zs.take n) := fun h =>
      ⟨by rw [List.length_take, h.1]; omega, fun _ => by
        obtain ⟨b', off', e, h1, h2⟩ := h.2 (by omega)
        cases e
        exact ⟨b, off, rfl, h1, fun j hj => by
          rw [h2 j (by omega)]
          congr 2
          simp [nth, List.getD, List.getElem?_take, hj]⟩⟩
    have pS' : ∀ W cc, Below w.heap.size w W → Calls Try.prog 122 #[.pointer (some ⟨g, 0, none⟩), .slice (some ⟨b, off, none⟩) n cc] W fun e w' => e = .returned (.int .u32 (sumN (nb (zs.take n)) : Nat)) ∧ W = w' := fun W cc hb =>
      csum_any W g (HT.out.below hb) _ n cc (zs.take n) (hrt (HROW.out.below hb)) hown (by omega)
    have hgl : getN (nb [nth zs (n + 3), nth zs (n + 2), nth zs (n + 1), nth zs n]) < 4294967296 := getN_lt4 (by simp [nb]) (nb_lt hy)
    have hsl : sumN (nb (zs.take n)) < 4294967296 := sumN_lt (nb_lt hown)
    have HRT := Lib.hid (hrt HROW.out)
    have HOWN := Lib.hid hown
    obtain ⟨G, hG⟩ : ∃ G, G = getN (nb [nth zs (n + 3), nth zs (n + 2), nth zs (n + 1), nth zs n]) := ⟨_, rfl⟩
    obtain ⟨T, hT⟩ : ∃ T, T = sumN (nb (zs.take n)) := ⟨_, rfl⟩
    rw [← hG] at pG' hgl
    rw [← hT] at pS' hsl
    have HG := Lib.hid hG
    have HTT := Lib.hid hT
    have pG := Lib.hid pG'
    have pS := Lib.hid pS'
    have hwg : IntKind.u32.wrap (G : Int) = (G : Int) := by simp [IntKind.wrap, IntKind.bits, IntKind.signed]; omega
    have HB1 : Below w.heap.size w (w.alloc (.cells #[.int .u8 (nth zs (n + 3)), .int .u8 (nth zs (n + 2)), .int .u8 (nth zs (n + 1)), .int .u8 (nth zs n)] 5)).drew := ((Below.refl _ w).alloc (Nat.le_refl _) _).drew
    have HX1 := (Blk.new w 5 #[.int .u8 (nth zs (n + 3)), .int .u8 (nth zs (n + 2)), .int .u8 (nth zs (n + 1)), .int .u8 (nth zs n)]).drew
    clear hrt hy hG hT pG' pS' hown HROW HT
    generalize nth zs n = z0 at *
    generalize nth zs (n + 1) = z1 at *
    generalize nth zs (n + 2) = z2 at *
    generalize nth zs (n + 3) = z3 at *
    have SC := Lib.hid (show ∀ W, Below w.heap.size w W → W.cell? ⟨b, off + n, none⟩ = some (.int .u8 z0) ∧ W.cell? ⟨b, off + n + 1, none⟩ = some (.int .u8 z1) ∧ W.cell? ⟨b, off + n + 2, none⟩ = some (.int .u8 z2) ∧ W.cell? ⟨b, off + n + 3, none⟩ = some (.int .u8 z3) from fun W hb => ⟨(hb.cell hbl).trans q0, (hb.cell hbl).trans q1, (hb.cell hbl).trans q2, (hb.cell hbl).trans q3⟩)
    have HB0 : Below w.heap.size w w.drew := (Below.refl _ w).drew
    clear q0 q1 q2 q3
    by_cases hGT : G = T
    · subst hGT
      have hseal : sealB (zs.take n) = zs := HIFF.out.2 (by rw [← HG.out, ← HTT.out])
      have e1 : openC zs = 0 := by unfold openC; rw [if_neg (by omega), show zs.length - 4 = n by omega, if_pos hseal]
      have e2 : openL zs = zs.take n := by unfold openL; rw [e1, if_pos rfl, show zs.length - 4 = n by omega]
      have htl : (zs.take n).length = n := by rw [List.length_take]; omega
      have E1 := Lib.hid e1
      have E2 := Lib.hid e2
      clear hseal e1 e2
      generalize zs.take n = own at *
      go_region_held3 (fun W => W.cell? ⟨b, off + n, none⟩ = some (.int .u8 z0) ∧ W.cell? ⟨b, off + n + 1, none⟩ = some (.int .u8 z1) ∧ W.cell? ⟨b, off + n + 2, none⟩ = some (.int .u8 z2) ∧ W.cell? ⟨b, off + n + 3, none⟩ = some (.int .u8 z3)) (first | with_reducible exact SC.out _ HB0 | with_reducible exact SC.out _ HB1 | fail "no keep")
        (first
          | (go_at_call 94; (with_reducible refine (pG.out _ HX1).mono ?_); rintro e wA ⟨rfl, rfl⟩)
          | (go_at_call 122; (with_reducible refine (pS.out _ _ HB1).mono ?_); rintro e wA ⟨rfl, rfl⟩)
          | fail "no arm")
      obtain ⟨W9, hW9⟩ : ∃ W9, W9 = (w.alloc (.cells #[.int .u8 z3, .int .u8 z2, .int .u8 z1, .int .u8 z0] 5)).drew := ⟨_, rfl⟩
      rw [← hW9] at HB1 HX1 ⊢
      have HB9 := Lib.hid HB1
      have hE := Lib.hid (On.empty W9 5 1)
      have hr9 := HRT.out.below (HB1.alloc HB1.size (.cells #[] 5))
      have hsrc : Src (W9.alloc (.cells #[] 5)) (some ⟨b, off, none⟩) n (ub own) := by
        rcases Nat.eq_zero_or_pos n with h0 | h0
        · exact .inl ⟨h0, by
            have : own = [] := List.eq_nil_of_length_eq_zero (by omega)
            rw [this]; rfl⟩
        · exact .inr (row_srcs hr9 h0)
      have hul : (ub own).length = n * 1 := by rw [ub_len, htl, Nat.mul_one]
      have hz9 := HB1.size
      clear hW9 HB1 HX1 pG pS SC HB0
      go_wp2_with (at_builtin; refine wpList_append_on _ (by rfl) _ _ 61 (by rfl) 5 i0 _ 1 1 Try.underlying61 hi hz0 hz1 hz2 (by rfl) (by omega) (.slice (some ⟨W9.heap.size, 0, none⟩) 0 0) 0 [] (by rfl) hE.out (some ⟨b, off, none⟩) n c (ub own) (by rfl) hul hsrc (ub_one _) (by simp only [maxLen]; omega) (by omega) ?_; intro v' w' hon hg hv')
      have hon' : Out w' v' own := by
        unfold Out
        rw [htl]
        rw [Nat.zero_add, List.nil_append] at hon
        exact hon
      obtain ⟨a6, c6, hv6, hb6, hc6, hrow6⟩ := out_rowc hon'
      rw [htl] at hv6 hb6 hrow6
      subst hv6
      go_ret2
      rw [E1.out, E2.out, htl]
      exact ⟨a6, c6, rfl, hb6, hc6, hrow6, (HB9.out.alloc hz9 _).grown hg (by simp; omega) (fun k hk => by simp [Value.ownBlock] at hk; omega)⟩
    · have hseal : ¬ sealB (zs.take n) = zs := fun e => hGT (by rw [HG.out, HTT.out]; exact HIFF.out.1 e)
      have e1 : openC zs = 20 := by unfold openC; rw [if_neg (by omega), show zs.length - 4 = n by omega, if_neg hseal]
      have e2 : openL zs = [] := by unfold openL; rw [e1]; rfl
      have E1 := Lib.hid e1
      have E2 := Lib.hid e2
      have hGT' : ¬ (G : Int) = (T : Int) := by omega
      clear hseal e1 e2
      go_region_held3 (fun W => W.cell? ⟨b, off + n, none⟩ = some (.int .u8 z0) ∧ W.cell? ⟨b, off + n + 1, none⟩ = some (.int .u8 z1) ∧ W.cell? ⟨b, off + n + 2, none⟩ = some (.int .u8 z2) ∧ W.cell? ⟨b, off + n + 3, none⟩ = some (.int .u8 z3)) (first | with_reducible exact SC.out _ HB0 | with_reducible exact SC.out _ HB1 | fail "no keep")
        (first
          | (go_at_call 94; (with_reducible refine (pG.out _ HX1).mono ?_); rintro e wA ⟨rfl, rfl⟩)
          | (go_at_call 122; (with_reducible refine (pS.out _ _ HB1).mono ?_); rintro e wA ⟨rfl, rfl⟩)
          | fail "no arm")
      go_wp2_with fail
      go_ret2
      rw [E1.out, E2.out]
      exact ⟨none, 0, rfl, Nat.le_refl _, by omega, ⟨rfl, fun h => absurd h (Nat.not_lt_zero _)⟩, HB1⟩

set_option maxRecDepth 100000 in
set_option maxHeartbeats 4000000 in
theorem ropen_any (w : World) (a : Option Addr) (len c : Nat) (zs : List Int) (hrow : Row .u8 w a len zs) (hz : ∀ z ∈ zs, 0 ≤ z ∧ z < 256) (hl : len ≤ 1000000) (hc : len ≤ c) (hc2 : c ≤ 9223372036854775807) :
    Calls Try.prog 97 #[.slice a len c] w fun e w' => ∃ a' c', e = .returned (.tuple #[.slice a' (openL zs).length c', .int .i64 (openC zs)]) ∧ (openL zs).length ≤ c' ∧ c' ≤ 9223372036854775807 ∧ Row .u8 w' a' (openL zs).length (openL zs) ∧ Below w.heap.size w w' := by
  have hzl := hrow.1
  by_cases h4 : len < 4
  · have e1 : openC zs = 70 := by unfold openC; rw [if_pos (by omega)]
    have e2 : openL zs = [] := by unfold openL; rw [e1]; rfl
    have E1 := Lib.hid e1
    have E2 := Lib.hid e2
    have hi : (len : Int) < 4 := by omega
    clear e1 e2 hrow
    go_enter Try.func97, Try.ntmps97
    go_wp2_with fail
    go_ret2
    rw [E1.out, E2.out]
    exact ⟨none, 0, rfl, Nat.le_refl _, by omega, ⟨rfl, fun h => absurd h (Nat.not_lt_zero _)⟩, Below.refl _ _⟩
  · obtain ⟨n, hn⟩ : ∃ n, len = n + 4 := ⟨len - 4, by omega⟩
    have hw : IntKind.i64.wrap ((len : Int) - 4) = (n : Int) := by rw [IntWalk.i64_in _ (by omega)]; omega
    have h4' : ¬ (len : Int) < 4 := by omega
    have hi0 : (0 : Int) ≤ (n : Int) := by omega
    have hi3 : (n : Int) ≤ (c : Int) := by omega
    have htl : (zs.take n).length = n := by rw [List.length_take]; omega
    have hown : ∀ z ∈ zs.take n, 0 ≤ z ∧ z < 256 := fun z h => hz z (List.mem_of_mem_take h)
    have hrt : Row .u8 w a n (zs.take n) :=
      ⟨htl, fun _ => by
        obtain ⟨b', off', e, h1, h2⟩ := hrow.2 (by omega)
        exact ⟨b', off', e, h1, fun j hj => by
          rw [h2 j (by omega)]
          congr 2
          simp [nth, List.getD, List.getElem?_take, hj]⟩⟩
    have hC : openC zs = if sealB (zs.take n) = zs then 0 else 20 := by unfold openC; rw [if_neg (by omega), show zs.length - 4 = n by omega]
    have hL : openL zs = if sealB (zs.take n) = zs then zs.take n else [] := by
      unfold openL
      rw [hC, show zs.length - 4 = n by omega]
      by_cases h : sealB (zs.take n) = zs
      · rw [if_pos h, if_pos rfl, if_pos h]
      · rw [if_neg h, if_neg (by omega), if_neg h]
    have HC := Lib.hid hC
    have HL := Lib.hid hL
    have pS := Lib.hid (rseal_any w a n c (zs.take n) hrt hown (by omega))
    have HRT := Lib.hid hrt
    have HROW := Lib.hid hrow
    have HZ := Lib.hid hn
    generalize zs.take n = own at *
    have hsl : (sealB own).length = n + 4 := by simp [sealB, le4]; omega
    have pE := Lib.hid (fun (W : World) (v' : Option Addr) (c' : Nat) (h1 : Row .u8 W v' (n + 4) (sealB own)) (h2 : Row .u8 W a len zs) => same_any W v' a (n + 4) len c' c (sealB own) zs h1 h2 (by omega) (by omega))
    have HSL := Lib.hid hsl
    clear hC hL hrow hrt hown hn hsl
    go_enter Try.func97, Try.ntmps97
    go_wp2_with fail
    refine pS.out.mono ?_
    rintro e w1 ⟨v, rfl, hv, hb1, hvo⟩
    obtain ⟨a1, c1, hv1, hb1c, hc1, hrow1⟩ := out_rowc (show Out w1 v (sealB own) by unfold Out; rw [HSL.out]; exact hv)
    rw [HSL.out] at hv1 hrow1
    subst hv1
    have HB1 := Lib.hid hb1
    have p2 := Lib.hid (pE.out w1 a1 c1 hrow1 (HROW.out.below hb1))
    clear pE pS hv hb1 hrow1 hb1c hc1 hvo
    generalize n + 4 = n4 at *
    go_wp2_with fail
    refine p2.out.mono ?_
    rintro e w2 ⟨rfl, hb2⟩
    have HB2 := Lib.hid (HB1.out.trans (hb2.mono HB1.out.size))
    by_cases hseal : sealB own = zs
    · rw [decide_eq_true hseal]
      have E1 : Hid (openC zs = 0) := Lib.hid (by rw [HC.out, if_pos hseal])
      have E2 : Hid (openL zs = own) := Lib.hid (by rw [HL.out, if_pos hseal])
      clear hseal hb2
      go_wp2_with fail
      go_ret2
      rw [E1.out, E2.out, htl]
      exact ⟨a, c, rfl, by omega, hc2, HRT.out.below HB2.out, HB2.out⟩
    · rw [decide_eq_false hseal]
      have E1 : Hid (openC zs = 20) := Lib.hid (by rw [HC.out, if_neg hseal])
      have E2 : Hid (openL zs = []) := Lib.hid (by rw [HL.out, if_neg hseal])
      clear hseal hb2
      go_wp2_with fail
      go_ret2
      rw [E1.out, E2.out]
      exact ⟨none, 0, rfl, Nat.le_refl _, by omega, ⟨rfl, fun h => absurd h (Nat.not_lt_zero _)⟩, HB2.out⟩
end Go.Proofs.Ytlhoffhagfhbcaa.Spe
namespace Go.Proofs.Ytlhoffhagfhbcaa.Spe
open Go.RowKit Go.Proofs.Ytlhoffhagfhbcaa.Byt Go.Proofs.Ytlhoffhagfhbcaa.Gm Go.Proofs.Ytlhoffhagfhbcaa.Crc
set_option linter.all false

/-- Bytes that are a tape's. -/
def Tp (B : List Int) (sd : Nat) (ls : List (Nat × Nat)) : Prop := sd < 4294967296 ∧ InB ls ∧ ls.length ≤ 16384 ∧ tapeB (sd : Int) ls = B
def mgOf (B : List Int) : Nat := getN (nb (B.take 2))
def sdOf (B : List Int) : Nat := getN (nb ((B.drop 2).take 4))
def manyOf (B : List Int) : Nat := getN (nb ((B.drop 6).take 4))
def HeadR (B : List Int) (sd : Nat) (ls : List (Nat × Nat)) (code : Int) : Prop :=
  if B.length < 10 then code = 70 ∧ sd = 0 ∧ ls = []
  else if mgOf B ≠ 16980 then code = 71 ∧ sd = 0 ∧ ls = []
  else if 16384 < manyOf B then code = 2 ∧ sd = 0 ∧ ls = []
  else (code = 0 ∧ Tp B sd ls) ∨ (code = 73 ∧ sd = 0 ∧ ls = [] ∧ ∀ s l, ¬ Tp B s l)
def ParseR (zs : List Int) (sd : Nat) (ls : List (Nat × Nat)) (code : Int) : Prop :=
  if openC zs = 0 then HeadR (openL zs) sd ls code else code = openC zs ∧ sd = 0 ∧ ls = []
theorem tp_inj {B : List Int} {sd sd' : Nat} {ls ls' : List (Nat × Nat)} (h : Tp B sd ls) (h' : Tp B sd' ls') : sd = sd' ∧ ls = ls' := by
  obtain ⟨h1, h2, h3, h4⟩ := h
  obtain ⟨k1, k2, k3, k4⟩ := h'
  have e : tapeB (sd : Int) ls = headB (sd' : Int) ls'.length ++ (runsL ls').flatMap runB := h4.trans k4.symm
  obtain ⟨a1, a2, a3⟩ := tape_head (n := ls'.length) ⟨by omega, by omega⟩ ⟨by omega, by omega⟩ (by omega) (by omega) e
  obtain ⟨c1, c2⟩ := runs_canon ls.length ls (Nat.le_refl _) h2
  obtain ⟨d1, d2⟩ := runs_canon ls'.length ls' (Nat.le_refl _) k2
  obtain ⟨ds, e4, e5⟩ := runs_split (runsL ls') (runsL ls) [] (canon_bd d1) (canon_bd c1) (by rw [a3, List.append_nil])
  have hds : ds = [] := by
    have := congrArg List.length e5
    rw [Spe.flat_len] at this
    exact List.eq_nil_of_length_eq_zero (by simp at this; omega)
  rw [hds, List.append_nil] at e4
  exact ⟨by omega, by rw [← c2, ← d2, e4]⟩
theorem parseR_inj {zs : List Int} {sd sd' : Nat} {ls ls' : List (Nat × Nat)} {c c' : Int} (h : ParseR zs sd ls c) (h' : ParseR zs sd' ls' c') : sd = sd' ∧ ls = ls' ∧ c = c' := by
  unfold ParseR at h h'
  by_cases h0 : openC zs = 0
  · rw [if_pos h0] at h h'
    unfold HeadR at h h'
    split at h
    · rename_i g
      rw [if_pos g] at h'
      obtain ⟨rfl, rfl, rfl⟩ := h
      obtain ⟨rfl, rfl, rfl⟩ := h'
      exact ⟨rfl, rfl, rfl⟩
    rename_i g
    rw [if_neg g] at h'
    split at h
    · rename_i g
      rw [if_pos g] at h'
      obtain ⟨rfl, rfl, rfl⟩ := h
      obtain ⟨rfl, rfl, rfl⟩ := h'
      exact ⟨rfl, rfl, rfl⟩
    rename_i g
    rw [if_neg g] at h'
    split at h
    · rename_i g
      rw [if_pos g] at h'
      obtain ⟨rfl, rfl, rfl⟩ := h
      obtain ⟨rfl, rfl, rfl⟩ := h'
      exact ⟨rfl, rfl, rfl⟩
    rename_i g
    rw [if_neg g] at h'
    rcases h with ⟨rfl, h⟩ | ⟨rfl, rfl, rfl, h⟩
    · rcases h' with ⟨rfl, h'⟩ | ⟨rfl, rfl, rfl, h'⟩
      · obtain ⟨rfl, rfl⟩ := tp_inj h h'
        exact ⟨rfl, rfl, rfl⟩
      · exact absurd h (h' _ _)
    · rcases h' with ⟨rfl, h'⟩ | ⟨rfl, rfl, rfl, h'⟩
      · exact absurd h' (h _ _)
      · exact ⟨rfl, rfl, rfl⟩
  · rw [if_neg h0] at h h'
    obtain ⟨rfl, rfl, rfl⟩ := h
    obtain ⟨rfl, rfl, rfl⟩ := h'
    exact ⟨rfl, rfl, rfl⟩

/-- Four bytes, and their word. -/
theorem be4_get {l : List Int} (hl : l.length = 4) (hz : ∀ z ∈ l, 0 ≤ z ∧ z < 256) : be4 ((getN (nb l) : Nat) : Int) = l := by
  match l, hl with
  | [a, b, c, d], _ =>
    have ha := hz a (by simp)
    have hb := hz b (by simp)
    have hc := hz c (by simp)
    have hd := hz d (by simp)
    simp [be4, nb, getN]
    omega
theorem be2_get {l : List Int} (hl : l.length = 2) (hz : ∀ z ∈ l, 0 ≤ z ∧ z < 256) : be2 ((getN (nb l) : Nat) : Int) = l ∧ getN (nb l) < 65536 := by
  match l, hl with
  | [a, b], _ =>
    have ha := hz a (by simp)
    have hb := hz b (by simp)
    simp [be2, nb, getN]
    omega
theorem head_split {B : List Int} (hz : ∀ z ∈ B, 0 ≤ z ∧ z < 256) (hl : 10 ≤ B.length) (hm : mgOf B = 16980) : B = headB (sdOf B : Nat) (manyOf B) ++ B.drop 10 := by
  have t1 := be2_get (l := B.take 2) (by simp; omega) (fun z h => hz z (List.mem_of_mem_take h))
  have t2 := be4_get (l := (B.drop 2).take 4) (by simp; omega) (fun z h => hz z (List.mem_of_mem_drop (List.mem_of_mem_take h)))
  have t3 := be4_get (l := (B.drop 6).take 4) (by simp; omega) (fun z h => hz z (List.mem_of_mem_drop (List.mem_of_mem_take h)))
  unfold mgOf at hm
  rw [hm] at t1
  have t1' : be2 16980 = B.take 2 := t1.1
  unfold headB sdOf manyOf
  rw [t1', t2, t3]
  have e1 : B.drop 6 = (B.drop 2).drop 4 := by simp
  have e2 : B.drop 10 = (B.drop 6).drop 4 := by simp
  rw [List.append_assoc, e2, List.take_append_drop, List.append_assoc, e1, List.take_append_drop, List.take_append_drop]
/-- The next chunk. -/
theorem chunk {R : List Int} (hz : ∀ z ∈ R, 0 ≤ z ∧ z < 256) (hl : 5 ≤ R.length) : ∃ n x y : Nat, n < 256 ∧ x < 65536 ∧ y < 65536 ∧ nth R 0 = (n : Int) ∧ getN (nb ((R.drop 1).take 2)) = x ∧ getN (nb ((R.drop 3).take 2)) = y ∧ R = runB (n, (x, y)) ++ R.drop 5 := by
  match R, hl with
  | a :: b :: c :: d :: e :: l, _ =>
    have ha := hz a (by simp)
    have t1 := be2_get (l := [b, c]) rfl (fun z h => hz z (by simp at h; rcases h with rfl | rfl <;> simp))
    have t2 := be2_get (l := [d, e]) rfl (fun z h => hz z (by simp at h; rcases h with rfl | rfl <;> simp))
    refine ⟨a.toNat, _, _, by omega, t1.2, t2.2, by simp [nth]; omega, rfl, rfl, ?_⟩
    unfold runB
    simp only
    rw [t1.1, t2.1, show ((a.toNat : Nat) : Int) % 256 = a by omega]
    simp
theorem fail_of {B : List Int} {sd many : Nat} {cs : List (Nat × (Nat × Nat))} {R : List Int} (hs : sd < 4294967296) (hm : many ≤ 16384) (hc : Canon cs) (hB : B = headB (sd : Int) many ++ (cs.flatMap runB ++ R))
    (h : ∀ ds, Canon (cs ++ ds) → R = ds.flatMap runB → (expL cs).length + (expL ds).length = many → False) : ∀ s l, ¬ Tp B s l := by
  intro s l ⟨h1, h2, h3, h4⟩
  obtain ⟨e1, e2, ds, e3, e4, e5, e6⟩ := tape_pre (sd := (s : Int)) (sd' := (sd : Int)) (n := many) (cs := cs) (rest := R) ⟨by omega, by omega⟩ ⟨by omega, by omega⟩ (by omega) (by omega) h2 (canon_bd hc) (h4.trans hB)
  exact h ds e3 e4 (by rw [← List.length_append, e5, e2])
section
variable {B : List Int} {sd many : Nat} {cs : List (Nat × (Nat × Nat))} {R : List Int}
theorem fail_short (hs : sd < 4294967296) (hm : many ≤ 16384) (hc : Canon cs) (hB : B = headB (sd : Int) many ++ (cs.flatMap runB ++ R)) (h0 : 0 < R.length) (h5 : R.length < 5) : ∀ s l, ¬ Tp B s l :=
  fail_of hs hm hc hB fun ds _ e _ => by
    obtain ⟨d, l, rfl, e2⟩ := rest_cases e h0
    rw [e2, List.length_append, runB_len] at h5
    omega
theorem fail_zero (hs : sd < 4294967296) (hm : many ≤ 16384) (hc : Canon cs) (hB : B = headB (sd : Int) many ++ (cs.flatMap runB ++ R)) (h0 : 0 < R.length) (hz : nth R 0 = 0) : ∀ s l, ¬ Tp B s l :=
  fail_of hs hm hc hB fun ds hcn e _ => by
    obtain ⟨d, l, rfl, e2⟩ := rest_cases e h0
    have hd := canon_bd hcn d (by simp)
    rw [e2] at hz
    obtain ⟨d1, d2, _⟩ := hd
    simp [nth, runB] at hz
    omega
theorem fail_many (hs : sd < 4294967296) (hm : many ≤ 16384) (hc : Canon cs) (hB : B = headB (sd : Int) many ++ (cs.flatMap runB ++ R)) (h0 : 0 < R.length) {n : Nat} (hn : nth R 0 = (n : Int)) (hz : many < (expL cs).length + n) : ∀ s l, ¬ Tp B s l :=
  fail_of hs hm hc hB fun ds hcn e hl => by
    obtain ⟨d, l, rfl, e2⟩ := rest_cases e h0
    have hd := canon_bd hcn d (by simp)
    rw [e2] at hn
    obtain ⟨d1, d2, _⟩ := hd
    rw [expL_cons, List.length_append, List.length_replicate] at hl
    simp [nth, runB] at hn
    omega
theorem fail_next (hs : sd < 4294967296) (hm : many ≤ 16384) (hc : Canon cs) (hB : B = headB (sd : Int) many ++ (cs.flatMap runB ++ R)) {c : Nat × (Nat × Nat)} {R' : List Int} (hb : Bd c) (hR : R = runB c ++ R') {e : Nat × (Nat × Nat)} (he : cs.getLast? = some e) (hlt : e.1 < 255) (hx : c.2 = e.2) : ∀ s l, ¬ Tp B s l :=
  fail_of hs hm hc hB fun ds hcn e3 _ => by
    obtain ⟨d, l, rfl, e2⟩ := rest_cases e3 (by rw [hR, List.length_append, runB_len]; omega)
    have hd := canon_bd hcn d (by simp)
    obtain ⟨rfl, _⟩ := runB_inj hb hd (hR.symm.trans e2)
    exact canon_next hcn he hlt hx
theorem fail_end (hs : sd < 4294967296) (hm : many ≤ 16384) (hc : Canon cs) (hB : B = headB (sd : Int) many ++ (cs.flatMap runB ++ R)) (h0 : R = []) (hne : (expL cs).length ≠ many) : ∀ s l, ¬ Tp B s l :=
  fail_of hs hm hc hB fun ds hcn e hl => by
    have hds : ds = [] := by
      have := congrArg List.length e
      rw [Spe.flat_len, h0] at this
      exact List.eq_nil_of_length_eq_zero (by simp at this; omega)
    subst hds
    simp [expL] at hl
    exact hne (by simpa [expL] using hl)
theorem expL_in (hc : Canon cs) : InB (expL cs) := by
  intro x hx
  unfold expL at hx
  obtain ⟨c, h1, h2⟩ := List.mem_flatMap.1 hx
  have := canon_bd hc c h1
  rw [(List.mem_replicate.1 h2).2]
  exact ⟨this.2.2.1, this.2.2.2⟩
theorem good_end (hs : sd < 4294967296) (hm : many ≤ 16384) (hc : Canon cs) (hB : B = headB (sd : Int) many ++ (cs.flatMap runB ++ R)) (h0 : R = []) (hne : (expL cs).length = many) : Tp B sd (expL cs) :=
  ⟨hs, expL_in hc, by omega, by unfold tapeB; rw [canon_runs hc, hne, hB, h0, List.append_nil]⟩
end
theorem openL_in {zs : List Int} (h : ∀ z ∈ zs, 0 ≤ z ∧ z < 256) : (∀ z ∈ openL zs, 0 ≤ z ∧ z < 256) ∧ (openL zs).length ≤ zs.length := by
  unfold openL
  split
  · exact ⟨fun z hz => h z (List.mem_of_mem_take hz), by simp⟩
  · exact ⟨fun z hz => by simp at hz, by simp⟩
theorem row_sub {w : World} {b off len : Nat} {zs : List Int} (h : Row .u8 w (some ⟨b, off, none⟩) len zs) (i n : Nat) (hn : i + n ≤ len) : Row .u8 w (some ⟨b, off + i, none⟩) n ((zs.drop i).take n) := by
  have hl := h.1
  refine ⟨by simp; omega, fun hp => ?_⟩
  obtain ⟨b', off', e, h1, h2⟩ := h.2 (by omega)
  cases e
  refine ⟨b, off + i, rfl, h1, fun j hj => ?_⟩
  rw [Nat.add_assoc, h2 (i + j) (by omega)]
  congr 2
  simp [nth, List.getD, List.getElem?_take, List.getElem?_drop, hj]
theorem row_drop {w : World} {b off len : Nat} {zs : List Int} (h : Row .u8 w (some ⟨b, off, none⟩) len zs) (i : Nat) (hn : i ≤ len) : Row .u8 w (some ⟨b, off + i, none⟩) (len - i) (zs.drop i) := by
  have := row_sub h i (len - i) (by omega)
  rw [List.take_of_length_le (by have := h.1; simp; omega)] at this
  exact this
end Go.Proofs.Ytlhoffhagfhbcaa.Spe
