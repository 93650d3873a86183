/-
  Texts joined: CrcF, RoutU. No condition.
-/
import Derived.Test.YtlhoffhagfhbcaaBDiff8
import Derived.Laws.BitsAllLaws
import Derived.Test.YtlhoffhagfhbcaaChecked
import Derived.Deep.Cut
import Derived.StillTailTactics
import Derived.BigRegion
import Derived.Laws.CopyOwn
import Derived.Laws.MakeOwn
import Derived.RangeFuncNested
import Derived.RangeFuncBound
import Derived.RangeFuncCalls
import Derived.RangeFuncLeaves
import Derived.RangeFuncFrom
import Derived.RangeFuncBox
namespace Go.Proofs.Ytlhoffhagfhbcaa.Crc
set_option linter.all false

def one (r : Nat) : Nat := if r % 2 = 1 then (r / 2) ^^^ 3988292384 else r / 2
def ones : Nat → Nat → Nat
  | 0, r => r
  | k + 1, r => ones k (one r)
def stepN (r b : Nat) : Nat := ones 8 (r ^^^ b)
def moreN (r : Nat) (l : List Nat) : Nat := l.foldl stepN r
def sumN (l : List Nat) : Nat := 4294967295 ^^^ moreN 4294967295 l

theorem one_lt {r : Nat} (h : r < 4294967296) : one r < 4294967296 := by
  unfold one
  split
  · have : (r / 2) ^^^ 3988292384 < 2 ^ 32 := Nat.xor_lt_two_pow (by omega) (by omega)
    omega
  · omega
theorem ones_lt : ∀ (k : Nat) {r : Nat}, r < 4294967296 → ones k r < 4294967296
  | 0, _, h => h
  | k + 1, _, h => ones_lt k (one_lt h)
theorem ones_succ : ∀ (k r : Nat), ones (k + 1) r = one (ones k r)
  | 0, _ => rfl
  | k + 1, r => ones_succ k (one r)
theorem xor_lt {a b : Nat} (ha : a < 4294967296) (hb : b < 4294967296) : a ^^^ b < 4294967296 := by
  have : a ^^^ b < 2 ^ 32 := Nat.xor_lt_two_pow (by omega) (by omega)
  omega
theorem stepN_lt {r b : Nat} (h : r < 4294967296) (hb : b < 256) : stepN r b < 4294967296 := ones_lt 8 (xor_lt h (by omega))
theorem moreN_lt : ∀ (l : List Nat) {r : Nat}, r < 4294967296 → (∀ b ∈ l, b < 256) → moreN r l < 4294967296
  | [], _, h, _ => h
  | b :: l, _, h, hb => moreN_lt l (stepN_lt h (hb b (by simp))) (fun x hx => hb x (by simp [hx]))
theorem sumN_lt {l : List Nat} (hb : ∀ b ∈ l, b < 256) : sumN l < 4294967296 := xor_lt (by omega) (moreN_lt l (by omega) hb)
theorem moreN_snoc (r : Nat) (l : List Nat) (b : Nat) : moreN r (l ++ [b]) = stepN (moreN r l) b := by simp [moreN]

theorem xor_div (a b : Nat) : (a ^^^ b) / 2 = a / 2 ^^^ b / 2 := by
  apply Nat.eq_of_testBit_eq
  intro i
  simp [Nat.testBit_div_two]
theorem xor_odd (a b : Nat) : (a ^^^ b) % 2 = (a % 2 + b % 2) % 2 := by
  have h := Nat.xor_mod_two_pow (a := a) (b := b) (n := 1)
  simp only [Nat.pow_one] at h
  rw [h]
  rcases Nat.mod_two_eq_zero_or_one a with ha | ha <;> rcases Nat.mod_two_eq_zero_or_one b with hb | hb <;> rw [ha, hb] <;> rfl
theorem one_xor (a b : Nat) : one (a ^^^ b) = one a ^^^ one b := by
  unfold one
  rw [xor_div, xor_odd]
  rcases Nat.mod_two_eq_zero_or_one a with ha | ha <;> rcases Nat.mod_two_eq_zero_or_one b with hb | hb <;> rw [ha, hb]
  · simp
  · simp [Nat.xor_assoc]
  · simp only [Nat.reduceAdd, Nat.reduceMod, ↓reduceIte, Nat.one_ne_zero, Nat.zero_ne_one]
    rw [Nat.xor_assoc, Nat.xor_comm (b / 2), ← Nat.xor_assoc]
  · simp only [Nat.reduceAdd, Nat.reduceMod, ↓reduceIte, Nat.one_ne_zero, Nat.zero_ne_one]
    rw [Nat.xor_assoc, ← Nat.xor_assoc 3988292384, Nat.xor_comm 3988292384, Nat.xor_assoc (b / 2), Nat.xor_self, Nat.xor_zero]
theorem ones_xor : ∀ (k a b : Nat), ones k (a ^^^ b) = ones k a ^^^ ones k b
  | 0, _, _ => rfl
  | k + 1, a, b => by
    show ones k (one (a ^^^ b)) = _
    rw [one_xor, ones_xor k]
    rfl
theorem ones_shift : ∀ (k m : Nat), ones k (m * 2 ^ k) = m
  | 0, m => by simp [ones]
  | k + 1, m => by
    show ones k (one (m * 2 ^ (k + 1))) = m
    have e : one (m * 2 ^ (k + 1)) = m * 2 ^ k := by
      have : m * 2 ^ (k + 1) = 2 * (m * 2 ^ k) := by rw [Nat.pow_succ]; ac_rfl
      unfold one
      rw [this, if_neg (by omega)]
      omega
    rw [e]
    exact ones_shift k m
theorem split8 (r : Nat) : r = (r % 256) ^^^ (r / 256 * 2 ^ 8) := by
  apply Nat.eq_of_testBit_eq
  intro i
  rw [Nat.testBit_xor, show (256 : Nat) = 2 ^ 8 from rfl, Nat.testBit_mod_two_pow, Nat.testBit_mul_two_pow, Nat.testBit_div_two_pow]
  by_cases h : i < 8
  · have h2 : ¬ i ≥ 8 := by omega
    simp [h, h2]
  · have h2 : i ≥ 8 := by omega
    simp [h, h2] <;> (congr 1; omega)
/-- A byte's step by the table. -/
theorem step_table (r b : Nat) : stepN r b = stepN 0 ((r % 256) ^^^ b) ^^^ r / 256 := by
  unfold stepN
  conv => lhs; rw [split8 r]
  rw [Nat.xor_assoc, Nat.xor_comm (r / 256 * 2 ^ 8), ← Nat.xor_assoc, ones_xor, ones_shift, Nat.zero_xor]
end Go.Proofs.Ytlhoffhagfhbcaa.Crc
namespace Go.Proofs.Ytlhoffhagfhbcaa.Crc
open Go.RowKit
set_option linter.all false

set_option maxRecDepth 100000 in
set_option maxHeartbeats 2000000 in
theorem cstep_any (w : World) (r b : Nat) (hr : r < 4294967296) (hb : b < 256) :
    Calls Try.prog 89 #[.int .u32 (r : Int), .int .u8 (b : Int)] w fun e w' => e = .returned (.int .u32 (stepN r b : Nat)) ∧ w = w' := by
  have hx := u32_xor_nat r b hr (by omega)
  have hw : IntKind.u32.wrap (b : Int) = (b : Int) := by rw [IntKind.wrap_u32']; omega
  go_enter Try.func89, Try.ntmps89
  go_wp2_with fail
  go_loopw [0, 9] (fun x i wr => ∃ k y : Nat, k ≤ 8 ∧ i = .int .i64 (k : Int) ∧ x = .int .u32 (y : Int) ∧ y < 4294967296 ∧ ones (8 - k) y = stepN r b ∧ wr = w) (fun _ i _ => (8 - intOf i).toNat)
  case atStart => exact ⟨0, r ^^^ b, by omega, rfl, rfl, xor_lt hr (by omega), rfl, rfl⟩
  case round =>
    obtain ⟨k, y, hk, rfl, rfl, hy, ho, rfl⟩ := hrel
    clear hx hw
    by_cases hlt : k < 8
    · have hlt' : (k : Int) < 8 := by omega
      have hk0 : (0 : Int) ≤ (k : Int) := by omega
      have ha := u32_and_nat y 1 hy (by omega)
      rw [nat_mask1] at ha
      have hx := u32_xor_nat (y / 2) 3988292384 (by omega) (by omega)
      have hd : ((y / 2 : Nat) : Int) = (y : Int) / 2 := by omega
      rw [hd] at hx
      have HD := Lib.hid hd
      obtain ⟨z, hz⟩ : ∃ z, z = one y := ⟨_, rfl⟩
      have HO : Hid (ones (8 - (k + 1)) z = stepN r b) := Lib.hid (by
        rw [← ho, hz]
        obtain ⟨j, hj⟩ : ∃ j, 8 - k = j + 1 := ⟨7 - k, by omega⟩
        rw [hj, show 8 - (k + 1) = j by omega]
        rfl)
      have HL : Hid (z < 4294967296) := Lib.hid (by rw [hz]; exact one_lt hy)
      by_cases hodd : y % 2 = 1
      · have h1 : one y = (y / 2) ^^^ 3988292384 := by unfold one; rw [if_pos hodd]
        rw [hodd] at ha
        have ha' : bits .and .u32 (y : Int) 1 = 1 := ha
        rw [← h1, ← hz] at hx
        have hx' : bits .xor .u32 ((y : Int) / 2) 3988292384 = (z : Int) := hx
        clear h1 ho hodd ha hx hz hd
        go_wp2_with fail
        exact ⟨⟨k + 1, z, by omega, by simp, rfl, HL.out, HO.out, trivial⟩, by simp [intOf]; omega⟩
      · have h1 : z = y / 2 := by rw [hz]; unfold one; rw [if_neg hodd]
        have hod : y % 2 = 0 := by omega
        rw [hod] at ha
        have ha' : bits .and .u32 (y : Int) 1 = 0 := ha
        have H1 := Lib.hid h1
        clear h1 ho hodd ha hx hz hd hod
        go_wp2_with fail
        exact ⟨⟨k + 1, z, by omega, by simp, by rw [H1.out, HD.out], HL.out, HO.out, trivial⟩, by simp [intOf]; omega⟩
    · obtain rfl : k = 8 := by omega
      have hz : y = stepN r b := ho
      go_wp2_with fail
      go_ret
      exact ⟨ret_int (by rw [hz]), rfl⟩

set_option maxRecDepth 100000 in
set_option maxHeartbeats 1000000 in
theorem rone_any (w : World) (y : Nat) (hy : y < 4294967296) :
    Calls Try.prog 136 #[.int .u32 (y : Int)] w fun e w' => e = .returned (.int .u32 (one y : Nat)) ∧ w = w' := by
  have hx := u32_xor_nat (y / 2) 3988292384 (by omega) (by omega)
  have hd : ((y / 2 : Nat) : Int) = (y : Int) / 2 := by omega
  rw [hd] at hx
  have hx' : bits .xor .u32 ((y : Int) / 2) 3988292384 = ((y / 2 ^^^ 3988292384 : Nat) : Int) := hx
  obtain ⟨z, hz⟩ : ∃ z, z = one y := ⟨_, rfl⟩
  have HD := Lib.hid hd
  clear hx hd
  rw [← hz]
  by_cases hodd : y % 2 = 1
  · have h1 : one y = (y / 2) ^^^ 3988292384 := by unfold one; rw [if_pos hodd]
    rw [← h1, ← hz] at hx'
    have hm : (y : Int) % 2 = 1 := by omega
    clear h1 hz hodd
    go_enter Try.func136, Try.ntmps136
    go_wp2_with fail
    go_ret
    exact ⟨rfl, rfl⟩
  · have h1 : z = y / 2 := by rw [hz]; unfold one; rw [if_neg hodd]
    have hm : (y : Int) % 2 = 0 := by omega
    have H1 := Lib.hid h1
    clear h1 hz hodd hx'
    go_enter Try.func136, Try.ntmps136
    go_wp2_with fail
    go_ret
    exact ⟨ret_int (by rw [H1.out, HD.out]), rfl⟩

set_option maxRecDepth 100000 in
set_option maxHeartbeats 2000000 in
theorem rstep_any (w : World) (r b : Nat) (hr : r < 4294967296) (hb : b < 256) :
    Calls Try.prog 123 #[.int .u32 (r : Int), .int .u8 (b : Int)] w fun e w' => e = .returned (.int .u32 (stepN r b : Nat)) ∧ w = w' := by
  have hx := u32_xor_nat r b hr (by omega)
  have hw : IntKind.u32.wrap (b : Int) = (b : Int) := by rw [IntKind.wrap_u32']; omega
  go_enter Try.func123, Try.ntmps123
  go_wp2_with fail
  go_loopw [0, 5] (fun x i wr => ∃ k y : Nat, k ≤ 8 ∧ i = .int .i64 (k : Int) ∧ x = .int .u32 (y : Int) ∧ y < 4294967296 ∧ ones (8 - k) y = stepN r b ∧ wr = w) (fun _ i _ => (8 - intOf i).toNat)
  case atStart => exact ⟨0, r ^^^ b, by omega, rfl, rfl, xor_lt hr (by omega), rfl, rfl⟩
  case round =>
    obtain ⟨k, y, hk, rfl, rfl, hy, ho, rfl⟩ := hrel
    clear hx hw
    by_cases hlt : k < 8
    · have hlt' : (k : Int) < 8 := by omega
      have hk0 : (0 : Int) ≤ (k : Int) := by omega
      have p := Lib.hid (rone_any wr y hy)
      obtain ⟨z, hz⟩ : ∃ z, z = one y := ⟨_, rfl⟩
      rw [← hz] at p
      have HO : Hid (ones (8 - (k + 1)) z = stepN r b) := Lib.hid (by
        rw [← ho, hz]
        obtain ⟨j, hj⟩ : ∃ j, 8 - k = j + 1 := ⟨7 - k, by omega⟩
        rw [hj, show 8 - (k + 1) = j by omega]
        rfl)
      have HL : Hid (z < 4294967296) := Lib.hid (by rw [hz]; exact one_lt hy)
      clear hz ho
      go_wp2_with fail
      refine p.out.mono ?_
      rintro e w2 ⟨rfl, rfl⟩
      go_wp2_with fail
      exact ⟨⟨k + 1, z, by omega, by simp, rfl, HL.out, HO.out, trivial⟩, by simp [intOf]; omega⟩
    · obtain rfl : k = 8 := by omega
      have hz : y = stepN r b := ho
      go_wp2_with fail
      go_ret
      exact ⟨ret_int (by rw [hz]), rfl⟩
end Go.Proofs.Ytlhoffhagfhbcaa.Crc
namespace Go.Proofs.Ytlhoffhagfhbcaa.Crc
open Go.RowKit
set_option linter.all false

/-- The first n rows of a table in memory. -/
def Rows (w : World) (g n : Nat) : Prop := ∃ cs : Array Value, Blk w g 143 cs ∧ cs.size = 256 ∧ ∀ i, i < n → cs[i]? = some (.int .u32 (stepN 0 i : Nat))
theorem Rows.cell {w : World} {g n i : Nat} (h : Rows w g n) (hi : i < n) : w.cell? ⟨g, i, none⟩ = some (.int .u32 (stepN 0 i : Nat)) := by
  obtain ⟨cs, hb, _, hc⟩ := h
  exact (hb.cell i).trans (hc i hi)
theorem Rows.below {w w' : World} {g n : Nat} (h : Rows w g n) (hb : Below w.heap.size w w') : Rows w' g n := by
  obtain ⟨cs, hk, hs, hc⟩ := h
  exact ⟨cs, hk.below hb hk.lt, hs, hc⟩
theorem Rows.lt {w : World} {g n : Nat} (h : Rows w g n) : g < w.heap.size := by
  obtain ⟨cs, hk, _⟩ := h
  exact hk.lt

set_option maxRecDepth 100000 in
set_option maxHeartbeats 4000000 in
theorem cnew_any (w : World) :
    Calls Try.prog 44 #[] w fun e w' => e = .returned (.pointer (some ⟨w.heap.size, 0, none⟩)) ∧ Rows w' w.heap.size 256 ∧ Below w.heap.size w w' := by
  obtain ⟨Z, hZ⟩ : ∃ Z, Try.zeroCells143 = Z := ⟨_, rfl⟩
  have hzs : Z.size = 256 := by rw [← hZ]; kernel_rfl
  obtain ⟨W1, hW1⟩ : ∃ W1, W1 = w.alloc (.cells Z 143) := ⟨_, rfl⟩
  have hX : Blk W1 w.heap.size 143 Z := by rw [hW1]; exact Blk.new _ _ _
  have hB : Below w.heap.size w W1 := by rw [hW1]; exact (Below.refl _ w).alloc (Nat.le_refl _) _
  go_enter Try.func44, Try.ntmps44
  go_upto_region 2 with fail
  rw [← hW1]
  clear hW1 hZ
  have HX := Lib.hid hX
  have HB := Lib.hid hB
  clear hX hB
  go_wp2_with fail
  go_loopw [5] (fun i wr => ∃ k : Nat, k ≤ 256 ∧ i = .int .i64 (k : Int) ∧ Rows wr w.heap.size k ∧ Below w.heap.size w wr) (fun i _ => (256 - intOf i).toNat)
  case atStart => exact ⟨0, by omega, rfl, ⟨Z, HX.out, hzs, fun i hi => by omega⟩, HB.out⟩
  case round =>
    obtain ⟨k, hk, rfl, ⟨cs, hT, hcs, hrow⟩, hb⟩ := hrel
    by_cases hlt : k < 256
    · have hlt' : (k : Int) < 256 := by omega
      have hk0 : (0 : Int) ≤ (k : Int) := by omega
      have hw : IntKind.u8.wrap (k : Int) = (k : Int) := by rw [IntKind.wrap_u8']; omega
      have p := Lib.hid (show ∀ W : World, Calls Try.prog 89 #[.int .u32 0, .int .u8 (k : Int)] W fun e w' => e = .returned (.int .u32 (stepN 0 k : Nat)) ∧ W = w' from fun W => cstep_any W 0 k (by omega) hlt)
      have hf := hT.frozen k
      have hc : (wr.cell? ⟨w.heap.size, k, none⟩).isSome = true := by rw [hT.cell k, Array.getElem?_eq_getElem (by omega)]; rfl
      obtain ⟨v, hv⟩ := Option.isSome_iff_exists.1 hc
      have HT := Lib.hid hT
      have HROW := Lib.hid hrow
      have HC := Lib.hid hcs
      clear hT hrow hc hcs
      obtain ⟨s, hs⟩ : ∃ s, s = stepN 0 k := ⟨_, rfl⟩
      have HSk := Lib.hid hs
      rw [← hs] at p
      clear hs
      go_upto_region 5 with fail
      go_region_law ((go_simp; go_at_call 89; refine (p.out _).mono ?_; rintro e w2 ⟨rfl, rfl⟩))
      all_goals
        go_wp2_with fail
        refine ⟨⟨k + 1, by omega, by simp, ⟨cs.setIfInBounds k (.int .u32 (s : Int)), HT.out.set_ k _, by rw [Array.size_setIfInBounds]; exact HC.out, fun i hi => ?_⟩, below_drewN (hb.setCell (p := ⟨w.heap.size, k, none⟩) (Nat.le_refl _) _) 1⟩, by simp [intOf]; omega⟩
        have hcs := HC.out
        by_cases e : i = k
        · subst e
          rw [Array.getElem?_setIfInBounds_self_of_lt (by omega), HSk.out]
        · rw [Array.getElem?_setIfInBounds_ne (fun h => e h.symm)]
          exact HROW.out i (by omega)
    · obtain rfl : k = 256 := by omega
      have HR := Lib.hid (show Rows wr w.heap.size 256 from ⟨cs, hT, hcs, hrow⟩)
      clear hT hrow hcs
      go_wp2_with fail
      go_ret
      exact ⟨rfl, HR.out, hb⟩
end Go.Proofs.Ytlhoffhagfhbcaa.Crc
namespace Go.Proofs.Ytlhoffhagfhbcaa.Crc
open Go.RowKit
set_option linter.all false

def nb (zs : List Int) : List Nat := zs.map Int.toNat
theorem nb_lt {zs : List Int} (h : ∀ z ∈ zs, 0 ≤ z ∧ z < 256) : ∀ b ∈ nb zs, b < 256 := by
  intro b hb
  obtain ⟨z, hz, rfl⟩ := List.mem_map.1 hb
  have := h z hz
  omega
theorem nb_take (zs : List Int) (k : Nat) (h : k < zs.length) : nb (zs.take (k + 1)) = nb (zs.take k) ++ [(nth zs k).toNat] := by
  unfold nb nth
  rw [List.take_succ, List.getElem?_eq_getElem h, List.map_append]
  simp [List.getD, h]
theorem nth_in {zs : List Int} (h : ∀ z ∈ zs, 0 ≤ z ∧ z < 256) {k : Nat} (hk : k < zs.length) : 0 ≤ nth zs k ∧ nth zs k < 256 := by
  have : nth zs k = zs[k] := by simp [nth, List.getD, hk]
  rw [this]
  exact h _ (List.getElem_mem hk)
theorem not_u32 (s : Nat) (hs : s < 4294967296) : bits .xor .u32 IntKind.u32.max (s : Int) = ((4294967295 ^^^ s : Nat) : Int) := by
  have : IntKind.u32.max = ((4294967295 : Nat) : Int) := by simp [IntKind.max, IntKind.bits, IntKind.signed]
  rw [this]
  exact u32_xor_nat 4294967295 s (by omega) hs

set_option maxRecDepth 100000 in
set_option maxHeartbeats 4000000 in
theorem cmore_any (w : World) (g s : Nat) (hT : Rows w g 256) (hs : s < 4294967296) (a : Option Addr) (len c : Nat) (zs : List Int) (hrow : Row .u8 w a len zs) (hz : ∀ z ∈ zs, 0 ≤ z ∧ z < 256) (hl : len ≤ 9223372036854775807) :
    Calls Try.prog 135 #[.pointer (some ⟨g, 0, none⟩), .int .u32 (s : Int), .slice a len c] w fun e w' => e = .returned (.int .u32 (4294967295 ^^^ moreN (4294967295 ^^^ s) (nb zs) : Nat)) ∧ w = w' := by
  have hn := not_u32 s hs
  have hzl := hrow.1
  go_enter Try.func135, Try.ntmps135
  go_wp2_with fail
  go_loopw [7, 14] (fun r i wr => ∃ k y : Nat, k ≤ len ∧ i = .int .i64 (k : Int) ∧ r = .int .u32 (y : Int) ∧ y = moreN (4294967295 ^^^ s) (nb (zs.take k)) ∧ wr = w) (fun _ i _ => ((len : Int) - intOf i).toNat)
  case atStart => exact ⟨0, 4294967295 ^^^ s, by omega, rfl, rfl, rfl, rfl⟩
  case round =>
    obtain ⟨k, y, hk, rfl, rfl, hy, rfl⟩ := hrel
    clear hn
    have hyl : y < 4294967296 := by
      rw [hy]
      exact moreN_lt _ (xor_lt (by omega) hs) (fun b hb => nb_lt hz b (by
        unfold nb at hb ⊢
        obtain ⟨z, hz', rfl⟩ := List.mem_map.1 hb
        exact List.mem_map.2 ⟨z, List.mem_of_mem_take hz', rfl⟩))
    by_cases hlt : k < len
    · have hlt' : (k : Int) < (len : Int) := by omega
      have hk0 : (0 : Int) ≤ (k : Int) := by omega
      obtain ⟨b0, off, rfl, hbl, hcell⟩ := hrow.2 (by omega)
      have hc := hcell k hlt
      have hb := nth_in hz (k := k) (by omega)
      obtain ⟨b, hbb⟩ : ∃ b : Nat, nth zs k = (b : Int) := ⟨(nth zs k).toNat, by omega⟩
      rw [hbb] at hc hb
      have hb256 : b < 256 := by omega
      obtain ⟨j, hj⟩ : ∃ j, j = (y % 256) ^^^ b := ⟨_, rfl⟩
      have hj256 : j < 256 := by
        have : (y % 256) ^^^ b < 2 ^ 8 := Nat.xor_lt_two_pow (by omega) (by omega)
        omega
      have hw1 : IntKind.u8.wrap (y : Int) = (y : Int) % 256 := IntKind.wrap_u8' _
      have hx1 : bits .xor .u8 ((y : Int) % 256) (b : Int) = (j : Int) := by
        have := u8_xor_nat (y % 256) b (by omega) hb256
        rw [hj, ← this]
        congr 1
      have ht := hT.cell hj256
      obtain ⟨t, htt⟩ : ∃ t, t = stepN 0 j := ⟨_, rfl⟩
      rw [← htt] at ht
      have ht32 : t < 4294967296 := by rw [htt]; exact stepN_lt (by omega) hj256
      obtain ⟨z, hzz⟩ : ∃ z, z = t ^^^ (y / 256) := ⟨_, rfl⟩
      have hx2 : bits .xor .u32 (t : Int) ((y : Int) / 256) = (z : Int) := by
        have := u32_xor_nat t (y / 256) ht32 (by omega)
        rw [hzz, ← this]
        congr 1
      have hj0 : (0 : Int) ≤ (j : Int) := by omega
      have hj1 : (j : Int) < 256 := by omega
      have HZ : Hid (z = moreN (4294967295 ^^^ s) (nb (zs.take (k + 1)))) := Lib.hid (by
        rw [nb_take zs k (by omega), moreN_snoc, ← hy, hbb, step_table, hzz, htt, hj]
        rfl)
      clear hy hj htt hzz hcell hbb
      go_wp2_with fail
      exact ⟨⟨k + 1, z, by omega, by simp, rfl, HZ.out, trivial⟩, by simp [intOf]; omega⟩
    · obtain rfl : k = len := by omega
      have hn2 := not_u32 y hyl
      have HY : Hid (y = moreN (4294967295 ^^^ s) (nb zs)) := Lib.hid (by rw [hy, List.take_of_length_le (by omega)])
      clear hy
      go_wp2_with fail
      go_ret
      exact ⟨ret_int (by rw [HY.out]), rfl⟩

set_option maxRecDepth 100000 in
set_option maxHeartbeats 1000000 in
theorem csum_any (w : World) (g : Nat) (hT : Rows w g 256) (a : Option Addr) (len c : Nat) (zs : List Int) (hrow : Row .u8 w a len zs) (hz : ∀ z ∈ zs, 0 ≤ z ∧ z < 256) (hl : len ≤ 9223372036854775807) :
    Calls Try.prog 122 #[.pointer (some ⟨g, 0, none⟩), .slice a len c] w fun e w' => e = .returned (.int .u32 (sumN (nb zs) : Nat)) ∧ w = w' := by
  have hs := cmore_any w g 0 hT (by omega) a len c zs hrow hz hl
  have p := Lib.hid (show Calls Try.prog 135 #[.pointer (some ⟨g, 0, none⟩), .int .u32 0, .slice a len c] w fun e w' => e = .returned (.int .u32 (sumN (nb zs) : Nat)) ∧ w = w' from hs)
  clear hs
  go_enter Try.func122, Try.ntmps122
  go_wp2_with fail
  refine p.out.mono ?_
  rintro e w2 ⟨rfl, rfl⟩
  go_wp2_with fail
  go_ret
  exact ⟨rfl, rfl⟩

set_option maxRecDepth 100000 in
set_option maxHeartbeats 4000000 in
theorem rmore_any (w : World) (s : Nat) (hs : s < 4294967296) (a : Option Addr) (len c : Nat) (zs : List Int) (hrow : Row .u8 w a len zs) (hz : ∀ z ∈ zs, 0 ≤ z ∧ z < 256) (hl : len ≤ 9223372036854775807) :
    Calls Try.prog 96 #[.int .u32 (s : Int), .slice a len c] w fun e w' => e = .returned (.int .u32 (4294967295 ^^^ moreN (4294967295 ^^^ s) (nb zs) : Nat)) ∧ w = w' := by
  have hn := not_u32 s hs
  have hzl := hrow.1
  go_enter Try.func96, Try.ntmps96
  go_wp2_with fail
  go_loopw [5, 6] (fun r i wr => ∃ k y : Nat, k ≤ len ∧ i = .int .i64 (k : Int) ∧ r = .int .u32 (y : Int) ∧ y = moreN (4294967295 ^^^ s) (nb (zs.take k)) ∧ wr = w) (fun _ i _ => ((len : Int) - intOf i).toNat)
  case atStart => exact ⟨0, 4294967295 ^^^ s, by omega, rfl, rfl, rfl, rfl⟩
  case round =>
    obtain ⟨k, y, hk, rfl, rfl, hy, rfl⟩ := hrel
    clear hn
    have hyl : y < 4294967296 := by
      rw [hy]
      exact moreN_lt _ (xor_lt (by omega) hs) (fun b hb => nb_lt hz b (by
        unfold nb at hb ⊢
        obtain ⟨z, hz', rfl⟩ := List.mem_map.1 hb
        exact List.mem_map.2 ⟨z, List.mem_of_mem_take hz', rfl⟩))
    by_cases hlt : k < len
    · have hlt' : (k : Int) < (len : Int) := by omega
      have hk0 : (0 : Int) ≤ (k : Int) := by omega
      obtain ⟨b0, off, rfl, hbl, hcell⟩ := hrow.2 (by omega)
      have hc := hcell k hlt
      have hb := nth_in hz (k := k) (by omega)
      obtain ⟨b, hbb⟩ : ∃ b : Nat, nth zs k = (b : Int) := ⟨(nth zs k).toNat, by omega⟩
      rw [hbb] at hc hb
      have hb256 : b < 256 := by omega
      have p := Lib.hid (fun W => rstep_any W y b hyl hb256)
      obtain ⟨z, hzz⟩ : ∃ z, z = stepN y b := ⟨_, rfl⟩
      rw [← hzz] at p
      have HZ : Hid (z = moreN (4294967295 ^^^ s) (nb (zs.take (k + 1)))) := Lib.hid (by
        rw [nb_take zs k (by omega), moreN_snoc, ← hy, hbb, hzz]
        rfl)
      clear hy hzz hcell hbb
      go_wp2_with fail
      refine (p.out _).mono ?_
      rintro e w2 ⟨rfl, rfl⟩
      go_wp2_with fail
      exact ⟨⟨k + 1, z, by omega, by simp, rfl, HZ.out, trivial⟩, by simp [intOf]; omega⟩
    · obtain rfl : k = len := by omega
      have hn2 := not_u32 y hyl
      have HY : Hid (y = moreN (4294967295 ^^^ s) (nb zs)) := Lib.hid (by rw [hy, List.take_of_length_le (by omega)])
      clear hy
      go_wp2_with fail
      go_ret
      exact ⟨ret_int (by rw [HY.out]), rfl⟩
end Go.Proofs.Ytlhoffhagfhbcaa.Crc
namespace Go.Proofs.Ytlhoffhagfhbcaa.Crc
open Go.RowKit Go.Proofs.Ytlhoffhagfhbcaa.Byt Go.Proofs.Ytlhoffhagfhbcaa.Gm
set_option linter.all false

def le4 (z : Int) : List Int := [z % 256, z / 256 % 256, z / 65536 % 256, z / 16777216 % 256]
/-- Bytes, sealed. -/
def sealB (zs : List Int) : List Int := zs ++ le4 (sumN (nb zs) : Nat)
theorem mk_bytes (W : World) (l c : Nat) (hlc : l ≤ c) (hc : c ≤ 2000000) : (Instr.makeSlice 61 (.int .i64 (l : Int)) (.int .i64 (c : Int))).run Try.prog W = .ok (.slice (some ⟨W.heap.size, 0, none⟩) l c) (W.alloc (.cells (madeCells (Value.cells (.int .u8 0)) c) 5)) := by
  obtain ⟨i0, hi, hz0, hz1, hz2⟩ := info_parts info8
  have := run_makeSlice (P := Try.prog) W 61 5 i0 (.int .u8 0) Try.underlying61 hi hz0 .i64 .i64 (l : Int) (c : Int) (by omega) (by omega) (by rw [hz1]; simp; omega) (by rw [hz2]; omega) (by omega)
  simp only [Int.toNat_natCast] at this
  rw [hz1, Nat.mul_one] at this
  exact this
theorem row_srcs {w : World} {a : Option Addr} {len : Nat} {zs : List Int} (h : Row .u8 w a len zs) (hp : 0 < len) : ∃ ad, a = some ad ∧ ∀ j v, (ub zs)[j]? = some v → w.cell? (ad.add j) = some v := by
  obtain ⟨b, off, rfl, hlt, hc⟩ := h.2 hp
  refine ⟨_, rfl, fun j v hv => ?_⟩
  have hadd : (⟨b, off, none⟩ : Addr).add j = ⟨b, off + j, none⟩ := by unfold Addr.add; split <;> simp_all
  have hj : j < len := by
    have := (List.getElem?_eq_some_iff.1 hv).1
    rw [ub_len, h.1] at this
    exact this
  rw [hadd, hc j hj]
  unfold ub at hv
  rw [List.getElem?_map] at hv
  have hjz : j < zs.length := by rw [h.1]; exact hj
  rw [List.getElem?_eq_getElem hjz] at hv
  rw [← hv]
  simp [nth, List.getD, hjz]

set_option maxRecDepth 100000 in
set_option maxHeartbeats 4000000 in
theorem cseal_any (w : World) (g : Nat) (hT : Rows w g 256) (a : Option Addr) (len c : Nat) (zs : List Int) (hrow : Row .u8 w a len zs) (hz : ∀ z ∈ zs, 0 ≤ z ∧ z < 256) (hl : len ≤ 1000000) :
    Calls Try.prog 92 #[.pointer (some ⟨g, 0, none⟩), .slice a len c] w (Made w (len + 4) (sealB zs)) := by
  obtain ⟨i0, hi, hz0, hz1, hz2⟩ := info_parts info8
  obtain ⟨MC, hMC⟩ : ∃ MC : Array Value, MC = madeCells (Value.cells (.int .u8 0)) (len + 4) := ⟨_, rfl⟩
  have hms : MC.size = len + 4 := by rw [hMC]; exact size_madeCells _ _
  have hmk : ∀ W : World, (Instr.makeSlice 61 (.int .i64 (len : Int)) (.int .i64 ((len : Int) + 4))).run Try.prog W = .ok (.slice (some ⟨W.heap.size, 0, none⟩) len (len + 4)) (W.alloc (.cells MC 5)) := fun W => by
    rw [hMC]
    exact mk_bytes W len (len + 4) (by omega) (by omega)
  have hln : (ub zs).length = len := by rw [ub_len, hrow.1]
  have hsz1 : (Try.prog.info? 5).map (·.size) = some 1 := by rw [hi]; simp [hz1]
  obtain ⟨W1, hW1⟩ : ∃ W1, W1 = w.alloc (.cells MC 5) := ⟨_, rfl⟩
  have hX : W1.heap[w.heap.size]? = some (.cells MC.toList.toArray 5 (0, 0)) := by rw [hW1, Array.toArray_toList]; exact heap_new w _
  have hB : Below w.heap.size w W1 := by rw [hW1]; exact (Below.refl _ w).alloc (Nat.le_refl _) _
  have hrow1 := hrow.below hB
  have HT := Lib.hid hT
  have HROW := Lib.hid hrow
  have hl2 : (len : Int) + 4 ≤ 9223372036854775807 := by omega
  clear hMC
  go_enter Try.func92, Try.ntmps92
  go_upto_region 2 with fail
  rw [← hW1]
  clear hmk hT hrow
  go_wp2_with (first
    | (refine wpList_copy_splice (by rfl) (.tmp 13) (.tmp 14) 61 61 (by rfl) 5 Try.underlying61 hsz1 (some ⟨w.heap.size, 0, none⟩) a len (len + 4) len c (by rfl) (by rfl) w.heap.size 0 MC.toList 5 hX (ub zs) (by rw [hln]; exact (Nat.min_self len).symm) (fun hp => ⟨rfl, row_srcs hrow1 (by omega)⟩) (by rw [hln, Array.length_toList, hms]; omega) (ub_one zs) w.heap.size w hB (Nat.le_refl _) ?_; intro W2 hg2 hb2)
    | fail)
  have hlm : MC.toList.length = len + 4 := by rw [Array.length_toList, hms]
  have hOn : On W2 5 1 (.slice (some ⟨w.heap.size, 0, none⟩) len (len + 4)) len (ub zs) :=
    ⟨by rw [hln]; omega, .inr ⟨w.heap.size, len + 4, _, rfl, hg2.out, by omega, by simp only [maxLen]; omega, by
      rw [List.size_toArray, length_splice _ _ _ (by rw [hln, hlm]; omega), hlm]; omega, by
      have : (splice MC.toList 0 (ub zs)).toArray.toList = ub zs ++ MC.toList.drop len := by simp [splice, hln]
      rw [this, show len * 1 = (ub zs).length by rw [hln]; omega]
      exact List.take_left⟩⟩
  have pS := Lib.hid (csum_any W2 g (HT.out.below (hb2.mono (Nat.le_refl _))) a len c zs (HROW.out.below hb2) hz (by omega))
  obtain ⟨s, hs⟩ : ∃ s, s = sumN (nb zs) := ⟨_, rfl⟩
  have HSS := Lib.hid hs
  rw [← hs] at pS
  have hs32 : s < 4294967296 := by rw [hs]; exact sumN_lt (nb_lt hz)
  have hz2' := hb2.size
  have HB2 := Lib.hid hb2
  have HON := Lib.hid (hOn.alloc (.cells #[.int .u8 ((s : Int) % 256), .int .u8 ((s : Int) / 256 % 256), .int .u8 ((s : Int) / 65536 % 256), .int .u8 ((s : Int) / 16777216 % 256)] 5))
  have hgl := lt_of_heap hg2.out
  clear hs hg2 hOn hb2 hX hB hW1 hrow1
  refine pS.out.mono ?_
  rintro e w3 ⟨rfl, rfl⟩
  have w1 : IntKind.u8.wrap ((s : Int) / 16777216) = (s : Int) / 16777216 % 256 := by simp [IntKind.wrap, IntKind.bits, IntKind.signed]
  have w2 : IntKind.u8.wrap ((s : Int) / 65536) = (s : Int) / 65536 % 256 := by simp [IntKind.wrap, IntKind.bits, IntKind.signed]
  have w3 : IntKind.u8.wrap ((s : Int) / 256) = (s : Int) / 256 % 256 := by simp [IntKind.wrap, IntKind.bits, IntKind.signed]
  have w4 : IntKind.u8.wrap (s : Int) = (s : Int) % 256 := by simp [IntKind.wrap, IntKind.bits, IntKind.signed]
  have hq1 : len + 4 ≤ maxLen := by simp only [maxLen]; omega
  go_wp2_with (first
    | (refine wpList_append_on _ (by rfl) (.tmp 19) (.tmp 31) 61 (by rfl) 5 i0 _ 1 1 Try.underlying61 hi hz0 hz1 hz2 (by rfl) (by omega) (.slice (some ⟨w.heap.size, 0, none⟩) len (len + 4)) len (ub zs) (by rfl) HON.out (some ⟨W2.heap.size, 0, none⟩) 4 4 (ub (le4 (s : Int))) (by rfl) (by rfl) (src_new W2 5 4 (ub (le4 (s : Int)))) (ub_one _) hq1 (by omega) ?_; intro v' w' hon hg hv')
    | fail)
  go_ret
  refine ⟨v', rfl, ?_, ?_, ?_⟩
  · unfold sealB
    rw [ub_app, ← HSS.out]
    exact hon
  · exact (HB2.out.alloc hz2' _).grown hg (by simp; omega) (fun k hk => by simp [Value.ownBlock] at hk; omega)
  · intro k hk
    exact (own_le hv' (n := w.heap.size) (by simp; omega) k hk).elim (fun e => by simp [Value.ownBlock] at e; omega) id
end Go.Proofs.Ytlhoffhagfhbcaa.Crc
namespace Go.Proofs.Ytlhoffhagfhbcaa.Crc
open Go.RowKit Go.Proofs.Ytlhoffhagfhbcaa.Byt Go.Proofs.Ytlhoffhagfhbcaa.Gm
set_option linter.all false

theorem endB4 (s : Nat) : endB s 4 = [(s : Int) / 16777216 % 256, (s : Int) / 65536 % 256, (s : Int) / 256 % 256, (s : Int) % 256] := by
  simp [endB]

set_option maxRecDepth 100000 in
set_option maxHeartbeats 4000000 in
theorem rseal_any (w : World) (a : Option Addr) (len c : Nat) (zs : List Int) (hrow : Row .u8 w a len zs) (hz : ∀ z ∈ zs, 0 ≤ z ∧ z < 256) (hl : len ≤ 1000000) :
    Calls Try.prog 49 #[.slice a len c] w (Made w (len + 4) (sealB zs)) := by
  obtain ⟨i0, hi, hz0, hz1, hz2⟩ := info_parts info8
  have hln : (ub zs).length = len := by rw [ub_len, hrow.1]
  have hsz1 : (Try.prog.info? 5).map (·.size) = some 1 := by rw [hi]; simp [hz1]
  have hp0 := rmore_any w 0 (by omega) a len c zs hrow hz (by omega)
  have p0 := Lib.hid (show Calls Try.prog 96 #[.int .u32 0, .slice a len c] w fun e w' => e = .returned (.int .u32 (sumN (nb zs) : Nat)) ∧ w = w' from hp0)
  obtain ⟨s, hs⟩ : ∃ s, s = sumN (nb zs) := ⟨_, rfl⟩
  have HSS := Lib.hid hs
  rw [← hs] at p0
  have hs32 : s < 4294967296 := by rw [hs]; exact sumN_lt (nb_lt hz)
  have hpb := rbytes_any w s 4 (by omega) (.inr rfl)
  have pB := Lib.hid (show Calls Try.prog 71 #[.int .u64 (s : Int), .int .i64 4] w (Made w 4 (endB s 4)) from hpb)
  have hw : IntKind.u64.wrap (s : Int) = (s : Int) := by rw [IntKind.wrap_u64]; omega
  have HROW := Lib.hid hrow
  clear hs hp0 hpb hrow
  go_enter Try.func49, Try.ntmps49
  go_wp2_with fail
  refine p0.out.mono ?_
  rintro e w1 ⟨rfl, rfl⟩
  go_wp2_with fail
  refine pB.out.mono ?_
  rintro e w1 ⟨v, rfl, hv, hb1, hvo⟩
  rcases hv.form with ⟨_, h40, _⟩ | ⟨gb, capb, rfl, hnb, hcb, how, hgl, hcell, -⟩
  · exact absurd h40 (by omega)
  have k3 : w1.cell? ⟨gb, 3, none⟩ = some (.int .u8 ((s : Int) % 256)) := hcell 3 _ (by rw [endB4]; rfl)
  have k2 : w1.cell? ⟨gb, 2, none⟩ = some (.int .u8 ((s : Int) / 256 % 256)) := hcell 2 _ (by rw [endB4]; rfl)
  have k1 : w1.cell? ⟨gb, 1, none⟩ = some (.int .u8 ((s : Int) / 65536 % 256)) := hcell 1 _ (by rw [endB4]; rfl)
  have k0 : w1.cell? ⟨gb, 0, none⟩ = some (.int .u8 ((s : Int) / 16777216 % 256)) := hcell 0 _ (by rw [endB4]; rfl)
  obtain ⟨MC, hMC⟩ : ∃ MC : Array Value, MC = madeCells (Value.cells (.int .u8 0)) len := ⟨_, rfl⟩
  have hms : MC.size = len := by rw [hMC]; exact size_madeCells _ _
  have hmk : ∀ W : World, (Instr.makeSlice 61 (.int .i64 (len : Int)) (.int .i64 (len : Int))).run Try.prog W = .ok (.slice (some ⟨W.heap.size, 0, none⟩) len len) (W.alloc (.cells MC 5)) := fun W => by
    rw [hMC]
    exact mk_bytes W len len (by omega) (by omega)
  obtain ⟨W1, hW1⟩ : ∃ W1, W1 = w1.alloc (.cells MC 5) := ⟨_, rfl⟩
  have hX : W1.heap[w1.heap.size]? = some (.cells MC.toList.toArray 5 (0, 0)) := by rw [hW1, Array.toArray_toList]; exact heap_new w1 _
  have hB : Below w1.heap.size w1 W1 := by rw [hW1]; exact (Below.refl _ w1).alloc (Nat.le_refl _) _
  have hrow1 := (HROW.out.below hb1).below hB
  have HB1 := Lib.hid hb1
  have hz1' := hb1.size
  clear hMC hv hcell hvo how pB p0 hb1
  go_upto_region 3 with fail
  rw [← hW1]
  clear hmk
  go_upto_region 4 with (first
    | (refine wpList_copy_splice (by rfl) (.tmp 12) (.tmp 13) 61 61 (by rfl) 5 Try.underlying61 hsz1 (some ⟨w1.heap.size, 0, none⟩) a len len len c (by rfl) (by rfl) w1.heap.size 0 MC.toList 5 hX (ub zs) (by rw [hln]; exact (Nat.min_self len).symm) (fun hp => ⟨rfl, row_srcs hrow1 (by omega)⟩) (by rw [hln, Array.length_toList, hms]; omega) (ub_one zs) w1.heap.size w1 hB (Nat.le_refl _) ?_; intro W2 hg2 hb2)
    | fail)
  have hlm : MC.toList.length = len := by rw [Array.length_toList, hms]
  have hOn : On W2 5 1 (.slice (some ⟨w1.heap.size, 0, none⟩) len len) len (ub zs) :=
    ⟨by rw [hln]; omega, .inr ⟨w1.heap.size, len, _, rfl, hg2.out, by omega, by simp only [maxLen]; omega, by
      rw [List.size_toArray, length_splice _ _ _ (by rw [hln, hlm]; omega), hlm]; omega, by
      have : (splice MC.toList 0 (ub zs)).toArray.toList = ub zs ++ MC.toList.drop len := by simp [splice, hln]
      rw [this, show len * 1 = (ub zs).length by rw [hln]; omega]
      exact List.take_left⟩⟩
  have j3 := (hb2.cell (p := ⟨gb, 3, none⟩) hgl).trans k3
  have j2 := (hb2.cell (p := ⟨gb, 2, none⟩) hgl).trans k2
  have j1 := (hb2.cell (p := ⟨gb, 1, none⟩) hgl).trans k1
  have j0 := (hb2.cell (p := ⟨gb, 0, none⟩) hgl).trans k0
  have hz2' := hb2.size
  have HB2 := Lib.hid (HB1.out.trans (hb2.mono HB1.out.size))
  have HON := Lib.hid (fun (W : World) (hW : W.heap = W2.heap) => (On.heap_eq hOn hW).alloc (.cells #[.int .u8 ((s : Int) % 256), .int .u8 ((s : Int) / 256 % 256), .int .u8 ((s : Int) / 65536 % 256), .int .u8 ((s : Int) / 16777216 % 256)] 5))
  have hgl2 := lt_of_heap hg2.out
  have hq1 : len + 4 ≤ maxLen := by simp only [maxLen]; omega
  clear hg2 hOn hb2 hX hB hW1 hrow1 k0 k1 k2 k3
  go_region_law (refine step_append_on _ (by rfl) (.tmp 15) (.tmp 28) 61 (by rfl) 5 i0 _ 1 1 Try.underlying61 hi hz0 hz1 hz2 (by rfl) (by omega) (.slice (some ⟨w1.heap.size, 0, none⟩) len len) len (ub zs) (by rfl) (by exact HON.out _ (by rfl)) (some ⟨W2.heap.size, 0, none⟩) 4 4 (ub (le4 (s : Int))) (by rfl) (by rfl) (by exact src_new _ 5 4 (ub (le4 (s : Int)))) (ub_one _) hq1 (by omega) ?_; intro v' w' hon hg hv')
  all_goals
    go_wp2_with fail
    go_ret
    refine ⟨v', rfl, ?_, ?_, ?_⟩
    · unfold sealB
      rw [ub_app, ← HSS.out]
      exact hon
    · exact Below.grown (by first | exact below_drewN (HB2.out.alloc (by omega) _) 1 | exact (below_drewN HB2.out 1).alloc (by show w.heap.size ≤ W2.heap.size; omega) _ | exact HB2.out.alloc (by omega) _) hg (by simp; omega) (fun k hk => by simp [Value.ownBlock] at hk; omega)
    · intro k hk
      exact (own_le hv' (n := w.heap.size) (by simp; omega) k hk).elim (fun e => by simp [Value.ownBlock] at e; omega) id
end Go.Proofs.Ytlhoffhagfhbcaa.Crc
namespace Go.Proofs.Ytlhoffhagfhbcaa
open Go.RowKit
set_option linter.all false

/-- How a round may be left: at its end with A, by a return with X. -/
def RoundEnd (A X : World → Prop) : Exit → Act → World → Prop
  | .normal, _, W => A W
  | .ret, _, W => X W
  | _, _, _ => False

theorem yield_round {F : Fence} {m : Nat} {P : Program} {l : Nat} {r : Loop} {args : Array Value} {W : World} {a1 : Act} {A X : World → Prop}
    (hfn : F.fn r.fn) (hl : W.heap[l]? = some (.loop r)) (hr : r.state = .ready) (hs : args.size = r.params.size)
    (ha : ∀ K : Act → World → Prop, K a1 W → r.assign.wpIn (F.inRound l) m P (Exit.then K (fun _ _ _ => False)) { tmps := (r.params.zip args).foldl (fun t (p, v) => t.setIfInBounds p v) r.tmps, defers := [] } W)
    (hb : r.body.wpIn (F.inRound l) m P (RoundEnd (fun V => V.heap[l]? = some (.loop { r with state := .busy }) ∧ A V) (fun V => V.heap[l]? = some (.loop { r with state := .busy }) ∧ X V)) a1 (W.putObj l (.loop { r with state := .busy }))) :
    YieldAt F m P l args W fun e V =>
      (e = .returned (.bool true) ∧ ∃ U, U.heap[l]? = some (.loop { r with state := .busy }) ∧ A U ∧ V = U.putObj l (.loop { r with state := .ready, pending := none })) ∨
      (e = .returned (.bool false) ∧ ∃ U, U.heap[l]? = some (.loop { r with state := .busy }) ∧ X U ∧ V = U.putObj l (.loop { r with state := .done, pending := some .ret })) := by
  refine ⟨_, _, _, _, run_yield hl hs, roundIn_of_wpIn hfn (ha _ ⟨_, run_beginRound hl hr, wpIn_mono hb ?_⟩)⟩
  intro e _ U h
  cases e with
  | normal => exact ⟨_, _, run_endRound none h.1, .inl ⟨rfl, U, h.1, h.2, rfl⟩⟩
  | ret => exact ⟨_, _, run_endRound (some .ret) h.1, .inr ⟨rfl, U, h.1, h.2, rfl⟩⟩
  | exit id => exact h.elim
  | goto t => exact h.elim
  | panic c => exact h.elim
  | outgrown => exact h.elim

theorem grown_put (W : World) (l : Nat) (o : Obj) : W.grownBy (W.putObj l o) (some l) := grownBy_putObj' W l o

/-- What speaks of a block that is no cells, below B, abides what OwnFrom B asks. -/
theorem ownFrom_obj {β : Type} {B k : Nat} (o : Obj) (hk : k < B) : OwnFrom B (fun (_ : β) W => W.heap[k]? = some o) := fun _ X Y row hs hg hr =>
  (hg.block k (Array.getElem?_eq_some_iff.1 hs).1 (fun e => by have := (hr k e.symm).1; omega)).trans hs

theorem range_out {α : Type} {F : Fence} {n : Nat} {P : Program} {g : Operand} {ps : Array Tmp} {assign body : Code} {Q : Exit → Act → World → Prop} {a : Act} {w : World}
    (hro : F.round = none) (h1 : 1 ≤ n) {gf : Nat} {lb : Array Value} (hg : a.eval g = .func (.func gf) #[] lb) (hFg : F.fn gf) (eg : ∀ args w, (callFunc gf args).run P w = .ok (.enter gf args) w)
    {encs : α → Array Value} {Kp : World → World → Prop} {S Sp : List α → Prop} {N : Nat}
    (hseq : ∀ (W1 : World) (J Jx : List α → World → Prop), Below w.heap.size w W1 → W1.heap.size = w.heap.size + 2 → OwnFrom (w.heap.size + 2) J → OwnFrom (w.heap.size + 2) Jx →
      (∀ pre x W, J pre W → pre.length < N → YieldAt F (n - 1 - 1) P (w.heap.size + 1) (encs x) W fun e W' =>
        (e = .returned (.bool true) ∧ J (pre ++ [x]) W' ∧ Kp W W') ∨ (e = .returned (.bool false) ∧ Jx (pre ++ [x]) W' ∧ Kp W W')) → J [] W1 →
      CallsIn F (n - 1) P gf (#[.func (.yield (w.heap.size + 1)) #[] #[]] ++ lb) W1 fun e W' => (∃ v, e = .returned v) ∧ ((∃ xs, S xs ∧ J xs W') ∨ (∃ pre, Sp pre ∧ Jx pre W')))
    (hKt : ∀ {A B C : World}, Kp A B → Kp B C → Kp A C) (hKb : ∀ (W : World) (o : Obj), Kp W (W.putObj (w.heap.size + 1) o)) (hps : ∀ x, (encs x).size = ps.size)
    (I Ix : List α → World → Prop) (hI : OwnFrom w.heap.size I) (hIx : OwnFrom w.heap.size Ix) (h0 : I [] w) (a₁ : α → Act)
    (hassign : ∀ (l : Nat) (x : α) (W : World) (K : Act → World → Prop), K (a₁ x) W →
      assign.wpIn (F.inRound l) (n - 1 - 1) P (Exit.then K (fun _ _ _ => False)) { tmps := (ps.zip (encs x)).foldl (fun t (p, v) => t.setIfInBounds p v) a.tmps, defers := [] } W)
    (hbody : ∀ (l : Nat) (pre : List α) (x : α) (W : World), I pre W → pre.length < N → body.wpIn (F.inRound l) (n - 1 - 1) P
      (RoundEnd (fun V => KeepsFrom w.heap.size W V ∧ Kp W V ∧ I (pre ++ [x]) V) (fun V => KeepsFrom w.heap.size W V ∧ Kp W V ∧ Ix (pre ++ [x]) V)) (a₁ x) W)
    (hdone : ∀ (D : Nat) (xs : List α) (W : World), w.heap.size ≤ D → S xs → I xs W → W.heap[D]? = some (.deferred (some [])) → Q .normal { a with defers := { target := .collected D, args := #[] } :: a.defers } W)
    (hstop : ∀ (D : Nat) (pre : List α) (W : World), w.heap.size ≤ D → Sp pre → Ix pre W → W.heap[D]? = some (.deferred (some [])) → Code.ret.wpIn F n P Q { a with defers := { target := .collected D, args := #[] } :: a.defers } W) :
    (Code.rangeFunc g ps assign body).wpIn F n P Q a w := by
  refine wpIn_rangeFunc fun fn hfn => ?_
  rw [hro]
  obtain ⟨s, hs⟩ : ∃ s, s = w.heap.size := ⟨_, rfl⟩
  obtain ⟨r, hr⟩ : ∃ r : Loop, r = { state := .ready, pending := none, fn, tmps := a.tmps, params := ps, assign, body, defers := s } := ⟨_, rfl⟩
  obtain ⟨V, hV⟩ : ∃ V, V = (w.alloc (.deferred (some []))).alloc (.loop r) := ⟨_, rfl⟩
  have z0 : V.heap.size = s + 2 := by rw [hV, hs]; simp
  have zl : V.heap[s + 1]? = some (.loop r) := by
    have := World.alloc_heap_new (w.alloc (.deferred (some []))) (.loop r)
    rw [World.size_alloc] at this; rw [hV, hs]; exact this
  have zd : V.heap[s]? = some (.deferred (some [])) := by
    rw [hV, hs]; exact (Below.heap_alloc _ _ _ (by simp)).trans (World.alloc_heap_new w _)
  have zb : Below w.heap.size w V := by rw [hV]; exact ((Below.refl _ w).alloc (Nat.le_refl _) _).alloc (by simp) _
  have zi : I [] V := by rw [hV]; exact hI.alloc _ (hI.alloc _ h0)
  rw [← hs] at hseq hKb hI hIx hdone hstop hbody
  have up : ∀ {J : List α → World → Prop}, OwnFrom s J → OwnFrom (s + 2) J := fun h y A B row hy hgr hrow => h y A B row hy hgr (fun k e => ⟨by have := (hrow k e).1; omega, (hrow k e).2⟩)
  refine ⟨s + 1, [{ target := .collected s, args := #[] }], V, { target := .fn (.func gf) lb, args := #[.func (.yield (s + 1)) #[] #[]] }, V, gf, #[.func (.yield (s + 1)) #[] #[]] ++ lb, V, ?_, ?_, ?_, ?_, fun _ => h1, ?_⟩
  · rw [hV, hr, hs]; exact run_enterLoop_outer _ _ _ _ _
  · simp only [resolve, hg]
    simp [go_sem]
  · intro f' hf'; simp [Target.leads] at hf'; subst hf'; exact hFg
  · simp [invoke, go_sem, eg]
  refine (hseq V (fun pre W => (I pre W ∧ W.heap[s + 1]? = some (.loop r)) ∧ W.heap[s]? = some (.deferred (some [])))
    (fun pre W => (Ix pre W ∧ W.heap[s + 1]? = some (.loop { r with state := .done, pending := some .ret })) ∧ W.heap[s]? = some (.deferred (some [])))
    (hs ▸ zb) z0 (((up hI).and (ownFrom_obj _ (by omega))).and (ownFrom_obj _ (by omega))) (((up hIx).and (ownFrom_obj _ (by omega))).and (ownFrom_obj _ (by omega))) ?_ ⟨⟨zi, zl⟩, zd⟩).mono ?_
  · rintro pre x W ⟨⟨i, il⟩, id⟩ hlen
    have hlt : s + 1 < W.heap.size := (Array.getElem?_eq_some_iff.1 il).1
    have bl : (W.putObj (s + 1) (.loop { r with state := .busy })).heap[s + 1]? = some (.loop { r with state := .busy }) := World.putObj_heap_same hlt
    have bd : (W.putObj (s + 1) (.loop { r with state := .busy })).heap[s]? = some (.deferred (some [])) := (World.putObj_heap_other (by omega)).trans id
    have hb := hbody (s + 1) pre x _ (hI.putObj (.loop { r with state := .busy }) i (by omega) il rfl) hlen
    have hy := yield_round (F := F) (m := n - 1 - 1) (P := P) (l := s + 1) (r := r) (args := encs x) (W := W) (a1 := a₁ x)
      (A := fun U => U.heap[s]? = some (.deferred (some [])) ∧ Kp (W.putObj (s + 1) (.loop { r with state := .busy })) U ∧ I (pre ++ [x]) U)
      (X := fun U => U.heap[s]? = some (.deferred (some [])) ∧ Kp (W.putObj (s + 1) (.loop { r with state := .busy })) U ∧ Ix (pre ++ [x]) U)
      (by rw [hr]; exact hfn) il (by rw [hr]) (by rw [hr]; exact hps x) (fun K hK => by rw [hr]; exact hassign _ x W K hK)
      (by
        have hrb : r.body = body := by rw [hr]
        have hb2 := hb
        rw [← hrb] at hb2
        refine wpIn_mono hb2 ?_
        intro e _ U h
        cases e with
        | normal => exact ⟨h.1.same _ _ (by omega) bl rfl, h.1.same _ _ (by omega) bd rfl, h.2⟩
        | ret => exact ⟨h.1.same _ _ (by omega) bl rfl, h.1.same _ _ (by omega) bd rfl, h.2⟩
        | exit id => exact h.elim
        | goto t => exact h.elim
        | panic c => exact h.elim
        | outgrown => exact h.elim)
    obtain ⟨f', t', as', bo', hrun, hR⟩ := hy
    refine ⟨f', t', as', bo', hrun, hR.mono ?_⟩
    rintro e U (⟨rfl, U1, ul, ⟨ud, uk, ui⟩, rfl⟩ | ⟨rfl, U1, ul, ⟨ud, uk, ui⟩, rfl⟩)
    · have hlt1 : s + 1 < U1.heap.size := (Array.getElem?_eq_some_iff.1 ul).1
      have er : ({ r with state := .ready, pending := none } : Loop) = r := by rw [hr]
      rw [er]
      exact .inl ⟨rfl, ⟨⟨hI.putObj _ ui (by omega) ul rfl, World.putObj_heap_same hlt1⟩, (World.putObj_heap_other (by omega)).trans ud⟩, hKt (hKt (hKb W _) uk) (hKb U1 _)⟩
    · have hlt1 : s + 1 < U1.heap.size := (Array.getElem?_eq_some_iff.1 ul).1
      exact .inr ⟨rfl, ⟨⟨hIx.putObj _ ui (by omega) ul rfl, World.putObj_heap_same hlt1⟩, (World.putObj_heap_other (by omega)).trans ud⟩, hKt (hKt (hKb W _) uk) (hKb U1 _)⟩
  · rintro e U ⟨⟨v, rfl⟩, (⟨xs, hS, ⟨ui, ul⟩, ud⟩ | ⟨pre, hSp, ⟨ui, ul⟩, ud⟩)⟩
    · have hend := run_endLoop (P := P) ul (by rw [hr]; simp)
      have ep : r.pending = none := by rw [hr]
      rw [ep] at hend
      exact ⟨none, _, hend, hdone s xs _ (Nat.le_refl _) hS (hI.putObj _ ui (by omega) ul rfl) ((World.putObj_heap_other (by omega)).trans ud)⟩
    · exact ⟨some .ret, _, run_endLoop (P := P) ul (by simp), hstop s pre _ (Nat.le_refl _) hSp (hIx.putObj _ ui (by omega) ul rfl) ((World.putObj_heap_other (by omega)).trans ud)⟩

theorem calls_of_wp_marks {P : Program} {f : FuncId} {fn : Func} {c : Code} {args : Array Value} {w : World} {R : Ending → World → Prop} (n : Nat)
    (hf : P.funcs[f]? = some fn) (hb : fn.body = some c)
    (h : c.wp P (bodyPostM Fence.wide n P fn R) { tmps := args ++ Array.replicate (fn.ntmps - args.size) undef, defers := [] } w) : Calls P f args w R :=
  (callsIn_wide (n := n)).1 (callsIn_of_wp_marks hf hb trivial (wpIn_wide.2 h) rfl)
/-- At the wide fence a round's contract holds at any depth. -/
theorem yield_wide {m m' : Nat} {P : Program} {l : Nat} {args : Array Value} {W : World} {R : Ending → World → Prop} (h : YieldAt Fence.wide m P l args W R) : YieldAt Fence.wide m' P l args W R := by
  obtain ⟨fn, tmps, assign, body, hy, hR⟩ := h
  exact ⟨fn, tmps, assign, body, hy, hR.1, fun c cs _ => hR.2 c cs (room_wide _)⟩
end Go.Proofs.Ytlhoffhagfhbcaa
namespace Go.Proofs.Ytlhoffhagfhbcaa
def IsLast (p : Nat → Prop) (v : Nat → Int) (lo hi : Nat) (L : Int) : Prop :=
  (L = -1 ∧ ∀ j, lo ≤ j → j < hi → ¬ p j) ∨ ∃ j, lo ≤ j ∧ j < hi ∧ p j ∧ L = v j ∧ ∀ i, j < i → i < hi → ¬ p i
def IsFirst (p : Nat → Prop) (v : Nat → Int) (lo hi : Nat) (L : Int) : Prop :=
  (L = -1 ∧ ∀ j, lo ≤ j → j < hi → ¬ p j) ∨ ∃ j, lo ≤ j ∧ j < hi ∧ p j ∧ L = v j ∧ ∀ i, lo ≤ i → i < j → ¬ p i
section
variable {p : Nat → Prop} {v : Nat → Int} {lo hi j : Nat} {L M : Int}
theorem IsLast.none (h : hi ≤ lo) : IsLast p v lo hi (-1) := .inl ⟨rfl, fun j a b => by omega⟩
theorem IsFirst.none (h : hi ≤ lo) : IsFirst p v lo hi (-1) := .inl ⟨rfl, fun j a b => by omega⟩
theorem IsLast.down_no (h : IsLast p v (j + 1) hi L) (hp : ¬ p j) : IsLast p v j hi L := by
  rcases h with ⟨rfl, h⟩ | ⟨k, h1, h2, h3, h4, h5⟩
  · refine .inl ⟨rfl, fun i a b => ?_⟩
    by_cases e : i = j
    · subst e; exact hp
    · exact h i (by omega) b
  · exact .inr ⟨k, by omega, h2, h3, h4, h5⟩
theorem IsLast.down_yes (hv : ∀ i k, i < k → v i < v k) (h0 : ∀ i, 0 ≤ v i) (h : IsLast p v (j + 1) hi L) (hp : p j) (hj : j < hi) : IsLast p v j hi (if L < v j then v j else L) := by
  rcases h with ⟨rfl, h⟩ | ⟨k, h1, h2, h3, rfl, h5⟩
  · rw [if_pos (by have := h0 j; omega)]
    exact .inr ⟨j, Nat.le_refl _, hj, hp, rfl, fun i a b => h i (by omega) b⟩
  · rw [if_neg (by have := hv j k (by omega); omega)]
    exact .inr ⟨k, by omega, h2, h3, rfl, h5⟩
theorem IsFirst.down_no (h : IsFirst p v (j + 1) hi L) (hp : ¬ p j) : IsFirst p v j hi L := by
  rcases h with ⟨rfl, h⟩ | ⟨k, h1, h2, h3, h4, h5⟩
  · refine .inl ⟨rfl, fun i a b => ?_⟩
    by_cases e : i = j
    · subst e; exact hp
    · exact h i (by omega) b
  · refine .inr ⟨k, by omega, h2, h3, h4, fun i a b => ?_⟩
    by_cases e : i = j
    · subst e; exact hp
    · exact h5 i (by omega) b
theorem IsFirst.down_yes (hp : p j) (hj : j < hi) : IsFirst p v j hi (v j) := .inr ⟨j, Nat.le_refl _, hj, hp, rfl, fun i a b => by omega⟩
theorem IsLast.up_no (h : IsLast p v lo j L) (hp : ¬ p j) : IsLast p v lo (j + 1) L := by
  rcases h with ⟨rfl, h⟩ | ⟨k, h1, h2, h3, h4, h5⟩
  · refine .inl ⟨rfl, fun i a b => ?_⟩
    by_cases e : i = j
    · subst e; exact hp
    · exact h i a (by omega)
  · refine .inr ⟨k, h1, by omega, h3, h4, fun i a b => ?_⟩
    by_cases e : i = j
    · subst e; exact hp
    · exact h5 i a (by omega)
theorem IsLast.up_yes (hp : p j) (hj : lo ≤ j) : IsLast p v lo (j + 1) (v j) := .inr ⟨j, hj, by omega, hp, rfl, fun i a b => by omega⟩
theorem IsFirst.up_no (h : IsFirst p v lo j L) (hp : ¬ p j) : IsFirst p v lo (j + 1) L := by
  rcases h with ⟨rfl, h⟩ | ⟨k, h1, h2, h3, h4, h5⟩
  · refine .inl ⟨rfl, fun i a b => ?_⟩
    by_cases e : i = j
    · subst e; exact hp
    · exact h i a (by omega)
  · exact .inr ⟨k, h1, by omega, h3, h4, h5⟩
theorem IsFirst.up_first (h0 : ∀ i, 0 ≤ v i) (h : IsFirst p v lo j L) (hL : L < 0) (hp : p j) (hj : lo ≤ j) : IsFirst p v lo (j + 1) (v j) := by
  rcases h with ⟨rfl, h⟩ | ⟨k, h1, h2, h3, rfl, h5⟩
  · exact .inr ⟨j, hj, by omega, hp, rfl, fun i a b => h i a b⟩
  · have := h0 k; omega
theorem IsFirst.up_had (h : IsFirst p v lo j L) (hL : ¬ L < 0) : IsFirst p v lo (j + 1) L := by
  rcases h with ⟨rfl, h⟩ | ⟨k, h1, h2, h3, rfl, h5⟩
  · omega
  · exact .inr ⟨k, h1, by omega, h3, rfl, h5⟩
theorem IsLast.same (h : IsLast p v lo hi L) (h' : IsLast p v lo hi M) : L = M := by
  rcases h with ⟨rfl, h⟩ | ⟨k, h1, h2, h3, rfl, h5⟩ <;> rcases h' with ⟨rfl, h'⟩ | ⟨k', h1', h2', h3', rfl, h5'⟩
  · rfl
  · exact absurd h3' (h _ h1' h2')
  · exact absurd h3 (h' _ h1 h2)
  · rcases Nat.lt_trichotomy k k' with e | e | e
    · exact absurd h3' (h5 _ e h2')
    · rw [e]
    · exact absurd h3 (h5' _ e h2)
theorem IsFirst.same (h : IsFirst p v lo hi L) (h' : IsFirst p v lo hi M) : L = M := by
  rcases h with ⟨rfl, h⟩ | ⟨k, h1, h2, h3, rfl, h5⟩ <;> rcases h' with ⟨rfl, h'⟩ | ⟨k', h1', h2', h3', rfl, h5'⟩
  · rfl
  · exact absurd h3' (h _ h1' h2')
  · exact absurd h3 (h' _ h1 h2)
  · rcases Nat.lt_trichotomy k k' with e | e | e
    · exact absurd h3 (h5' _ h1 e)
    · rw [e]
    · exact absurd h3' (h5 _ h1' e)
end
end Go.Proofs.Ytlhoffhagfhbcaa
