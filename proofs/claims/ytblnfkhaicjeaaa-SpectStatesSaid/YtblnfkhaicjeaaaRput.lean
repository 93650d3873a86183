/-
  backstayref01.Bytes of four or eight; backstayref23.put.
-/
import Derived.Test.YtblnfkhaicjeaaaGsum
namespace Go.Proofs.Ytblnfkhaicjeaaa.Gm
open Go.RowKit Go.Sort Go.Proofs.Ytblnfkhaicjeaaa.Num Go.Proofs.Ytblnfkhaicjeaaa.Byt
set_option linter.all false

def endB (u : Nat) : Nat → List Int
  | 0 => []
  | j + 1 => ((u / 256 ^ j % 256 : Nat) : Int) :: endB u j
theorem endB_len (u : Nat) : ∀ j, (endB u j).length = j
  | 0 => rfl
  | j + 1 => by simp [endB, endB_len u j]
theorem endB4 (u : Nat) : endB u 4 = be4 u := by
  simp only [endB, be4, List.cons.injEq]
  refine ⟨?_, ?_, ?_, ?_, trivial⟩ <;> omega
theorem endB8 (u : Nat) : endB u 8 = be8 u := by
  simp only [endB, be8, be4, List.cons_append, List.nil_append, List.cons.injEq]
  refine ⟨?_, ?_, ?_, ?_, ?_, ?_, ?_, ?_, trivial⟩ <;> omega
def partB (u n j : Nat) : List Value := List.replicate (n - j) (Value.int .u8 0) ++ ub (endB u j)
theorem partB_len (u n j : Nat) (h : j ≤ n) : (partB u n j).length = n := by simp [partB, ub, endB_len]; omega
theorem partB_set (u n j : Nat) (h : j < n) : (partB u n j).set (n - j - 1) (Value.int .u8 ((u / 256 ^ j % 256 : Nat) : Int)) = partB u n (j + 1) := by
  unfold partB
  obtain ⟨m, rfl⟩ : ∃ m, n = m + 1 + j := ⟨n - j - 1, by omega⟩
  rw [show m + 1 + j - j = m + 1 by omega, show m + 1 - 1 = m by omega, show m + 1 + j - (j + 1) = m by omega]
  rw [List.replicate_succ', List.append_assoc, List.set_append, if_neg (by simp), List.length_replicate, Nat.sub_self]
  rfl
/-- What a function that makes bytes of its own hands back. -/
def Made (w : World) (n : Nat) (l : List Int) (e : Ending) (w' : World) : Prop := ∃ v, e = .returned v ∧ On w' 5 1 v n (ub l) ∧ Below w.heap.size w w' ∧ (∀ g, v.ownBlock = some g → w.heap.size ≤ g)

set_option maxRecDepth 100000 in
set_option maxHeartbeats 4000000 in
theorem rbytes_any (w : World) (u n : Nat) (hu : u < 18446744073709551616) (hn : n = 8 ∨ n = 4) :
    Calls Try.prog 60 #[.int .u64 u, .int .i64 n] w (Made w n (endB u n)) := by
  have hmk : ∀ W : World, (Instr.makeSlice 40 (.int .i64 (n : Int)) (.int .i64 (n : Int))).run Try.prog W = .ok (.slice (some ⟨W.heap.size, 0, none⟩) n n) (W.alloc (.cells (partB u n 0).toArray 5)) := by
    intro W
    rcases hn with rfl | rfl
    · show _ = _; kernel_rfl
    · show _ = _; kernel_rfl
  have hn1 : n ≤ 8 := by omega
  have h0 : On (w.alloc (.cells (partB u n 0).toArray 5)) 5 1 (.slice (some ⟨w.heap.size, 0, none⟩) n n) n (partB u n 0) :=
    ⟨by rw [partB_len u n 0 (Nat.zero_le _)]; omega, .inr ⟨w.heap.size, n, _, rfl, heap_new w _, Nat.le_refl _, by simp only [maxLen]; omega, by simp [partB_len u n 0 (Nat.zero_le _)], by rw [Nat.mul_one]; show List.take n (partB u n 0) = _; exact List.take_of_length_le (by rw [partB_len u n 0 (Nat.zero_le _)]; exact Nat.le_refl _)⟩⟩
  have hB0 : Below w.heap.size w (w.alloc (.cells (partB u n 0).toArray 5)) := (Below.refl _ w).alloc (Nat.le_refl _) _
  have hw1 : IntKind.i64.wrap ((n : Int) - 1) = (n : Int) - 1 := IntWalk.i64_in _ (by omega)
  have hpos : 0 < n := by omega
  go_enter Try.func60, Try.ntmps60
  go_wp2_with fail
  generalize w.alloc (.cells (partB u n 0).toArray 5) = W1 at *
  clear hmk
  go_loopw [0, 6] (fun uv iv wr => ∃ j : Nat, j ≤ n ∧ iv = .int .i64 ((n : Int) - 1 - (j : Int)) ∧ uv = .int .u64 ((u / 256 ^ j : Nat) : Int) ∧ On wr 5 1 (.slice (some ⟨w.heap.size, 0, none⟩) n n) n (partB u n j) ∧ Below w.heap.size w wr) (fun _ iv _ => (intOf iv + 1).toNat)
  case atStart => exact ⟨0, by omega, by simp, by simp, h0, hB0⟩
  case round =>
    clear h0 hB0
    obtain ⟨j, hj, rfl, rfl, hO, hB⟩ := hrel
    by_cases hlt : j < n
    · obtain ⟨i, hi⟩ : ∃ i : Nat, (n : Int) - 1 - (j : Int) = (i : Int) := ⟨n - j - 1, by omega⟩
      have hi2 : i = n - j - 1 := by omega
      rw [hi]
      have i1 : (i : Int) < (n : Int) := by omega
      have i0 : (0 : Int) ≤ (i : Int) := by omega
      have hset := hO.store i (.int .u8 ((u / 256 ^ j % 256 : Nat) : Int))
      rw [hi2, partB_set u n j hlt, ← hi2] at hset
      have hdiv : u / 256 ^ j / 256 = u / 256 ^ (j + 1) := by rw [Nat.div_div_eq_div_mul, ← Nat.pow_succ]
      have HD := Lib.hid hdiv
      have hle : u / 256 ^ j ≤ u := Nat.div_le_self _ _
      have hB2 : Below w.heap.size w (wr.setCell ⟨w.heap.size, i, none⟩ (.int .u8 ((u / 256 ^ j % 256 : Nat) : Int))) := hB.setCell (Nat.le_refl _) _
      rcases hO.form with ⟨hv, _⟩ | ⟨g, cap, hv, hnc, hcm, how, hgl, hcell, hfr⟩
      · cases hv
      · cases hv
        have hlen := partB_len u n j hj
        have ci := hcell i ((partB u n j)[i]'(by omega)) (List.getElem?_eq_getElem (by omega))
        have fi := hfr i
        have HI := Lib.hid hi
        generalize (partB u n j)[i]'_ = old at ci
        have HS := Lib.hid hset
        have HB := Lib.hid hB2
        generalize u / 256 ^ j = x at *
        have hwx : IntKind.u8.wrap ((x : Int) % 256) = (x : Int) % 256 := IntWalk.u8_in _ (by omega)
        clear hi hi2 hset hdiv hB2 hO hB hcell hfr how hnc hcm hlen
        go_wp2_with fail
        go_roundw
        case rel => exact ⟨j + 1, by omega, by have := HI.out; (first | (congr 1; omega) | congr 1), by rw [← HD.out]; (try congr 1), by simpa using HS.out, by simpa using HB.out⟩
        case measure => have := HI.out; simp [intOf] <;> omega
    · obtain rfl : j = n := by omega
      rw [show (j : Int) - 1 - (j : Int) = -1 by omega]
      have HO := Lib.hid hO
      clear hO
      go_wp2_with fail
      go_ret
      refine ⟨_, rfl, ?_, hB, fun g hg => by cases hg; exact Nat.le_refl _⟩
      have := HO.out
      unfold partB at this
      rwa [Nat.sub_self] at this
theorem natAbs_u64 (z : Int) : ∃ u : Nat, IntKind.u64.wrap z = (u : Int) ∧ u < 18446744073709551616 := ⟨(IntKind.u64.wrap z).toNat, by simp [IntKind.wrap, IntKind.bits, IntKind.signed]; omega, by simp [IntKind.wrap, IntKind.bits, IntKind.signed]; omega⟩

set_option maxRecDepth 100000 in
set_option maxHeartbeats 2000000 in
theorem rput_any (w : World) (v : Value) (xs : List Int) (z : Int) (h : Out w v xs) (hl : xs.length ≤ 900000) :
    Calls Try.prog 59 #[v, .int .i64 z] w (Puts w v (xs ++ be8 z)) := by
  obtain ⟨u, hu, hu2⟩ := natAbs_u64 z
  have HE := Lib.hid (show be8 z = endB u 8 by rw [endB8, ← hu, be8_wrap])
  have p := Lib.hid (rbytes_any w u 8 hu2 (.inl rfl))
  have H := Lib.hid h
  have HL := Lib.hid hl
  clear h hl
  obtain ⟨i0, hi, hz0, hz1, hz2⟩ := info_parts info8
  go_enter Try.func59, Try.ntmps59
  go_wp2_with fail
  refine p.out.mono ?_
  rintro e w1 ⟨v1, rfl, o1, b1, g1⟩
  have hO := Lib.hid (On.below H.out b1 H.out.lt)
  obtain ⟨a1, c1, rfl, hc1, hm1⟩ := o1.slice
  have hsrc := o1.src
  have hel : (ub (endB u 8)).length = 8 * 1 := by rw [ub_len, endB_len]
  go_wp2_with (at_builtin; refine wpList_append_on _ (by rfl) _ _ 40 (by rfl) 5 i0 _ 1 1 Try.underlying40 hi hz0 hz1 hz2 (by rfl) (by omega) v xs.length (ub xs) (by rfl) hO.out a1 8 c1 (ub (endB u 8)) (by rfl) hel hsrc (ub_one _) (by have := HL.out; simp only [maxLen]; omega) (by have := HL.out; omega) ?_; intro v' w' hon hg hv')
  go_ret
  have hb1 := b1.size
  refine ⟨v', rfl, ?_, ?_, fun g hg' => ?_⟩
  · unfold Out
    rw [HE.out, List.length_append, endB_len, ub_app]
    exact hon
  · exact (Touch.of_below b1 : Touch (OwnB v) w w1).grown hg (fun k hk => .inl hk)
  · rcases hv' with e | e
    · exact .inl (by rw [← e]; exact hg')
    · rw [e] at hg'; cases hg'; exact .inr hb1
end Go.Proofs.Ytblnfkhaicjeaaa.Gm
