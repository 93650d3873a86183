/-
  Texts joined: DfC, DfD, Dig, Num. No condition.
-/
import Derived.Test.YtlhoffhagfhbcaaBDiff1
import Derived.WalkKit
import Derived.Test.YtlhoffhagfhbcaaProg
namespace Go.Proofs.Ytlhoffhagfhbcaa.Dif
open Go.RowKit Go.Proofs.Ytlhoffhagfhbcaa.Byt
set_option linter.all false

def spS : ByteArray := { data := #[32] }
def nlS : ByteArray := { data := #[10] }
/-- A word and numbers, each behind a space. -/
def wordsS (s : ByteArray) : List Int → ByteArray
  | [] => s
  | n :: l => wordsS (s ++ (spS ++ numS n)) l
def lineS (s : ByteArray) (l : List Int) : ByteArray := wordsS s l ++ nlS
theorem wordsS_snoc : ∀ (l : List Int) (s : ByteArray) (n : Int), wordsS s (l ++ [n]) = wordsS s l ++ (spS ++ numS n)
  | [], s, n => rfl
  | m :: l, s, n => wordsS_snoc l (s ++ (spS ++ numS m)) n
theorem wordsS_take {l : List Int} (s : ByteArray) {i : Nat} (h : i < l.length) : wordsS s (l.take (i + 1)) = wordsS s (l.take i) ++ (spS ++ numS (nth l i)) := by
  rw [← wordsS_snoc]
  congr 1
  rw [List.take_succ, show l[i]? = some (nth l i) from by simp [nth, List.getD, h]]
  rfl
/-- Numbers of 64 bits. -/
def I64s (l : List Int) : Prop := ∀ n ∈ l, -9223372036854775808 ≤ n ∧ n ≤ 9223372036854775807
theorem I64s.nth {l : List Int} (h : I64s l) {i : Nat} (hi : i < l.length) : -9223372036854775808 ≤ nth l i ∧ nth l i ≤ 9223372036854775807 :=
  h _ (by simp [Go.Proofs.Ytlhoffhagfhbcaa.nth, List.getD, hi])
theorem I64s.tk {l : List Int} (h : I64s l) (i : Nat) : I64s (l.take i) := fun n hn => h n (List.mem_of_mem_take hn)
theorem wordsS_size : ∀ (l : List Int) (s : ByteArray), I64s l → (wordsS s l).size ≤ s.size + 21 * l.length
  | [], s, _ => by simp [wordsS]
  | n :: l, s, h => by
    have h1 := wordsS_size l (s ++ (spS ++ numS n)) (fun m hm => h m (List.mem_cons_of_mem _ hm))
    have h2 := numS_size (h n (by simp)).1 (h n (by simp)).2
    rw [ByteArray.size_append, ByteArray.size_append, show spS.size = 1 from rfl] at h1
    simp only [wordsS, List.length_cons]
    omega

set_option maxRecDepth 100000 in
set_option maxHeartbeats 4000000 in
theorem line_any (w : World) (s : ByteArray) (a : Option Addr) (c : Nat) (l : List Int) (hr : Row .i64 w a l.length l) (hl : l.length ≤ 1000) (h64 : I64s l) (hs : s.size ≤ 1000000) :
    Calls Try.prog 63 #[.string s, .slice a l.length c] w fun e w' => e = .returned (.string (lineS s l)) ∧ Below w.heap.size w w' := by
  go_enter Try.func63, Try.ntmps63
  go_wp2_with fail
  go_loopw [5, 11] (fun sv iv wr => ∃ i : Nat, i ≤ l.length ∧ sv = .string (wordsS s (l.take i)) ∧ iv = .int .i64 (i : Int) ∧ Below w.heap.size w wr) (fun _ iv _ => l.length - (intOf iv).toNat)
  case atStart => exact ⟨0, by omega, rfl, rfl, Below.refl _ _⟩
  case round =>
    obtain ⟨i, hi, rfl, rfl, hb⟩ := hrel
    have hsz := wordsS_size (l.take i) s (h64.tk i)
    rw [List.length_take] at hsz
    by_cases hlt : i < l.length
    · obtain ⟨gb, ob, rfl, hgb, hcb⟩ := hr.2 (by omega)
      have c0 := (hb.cell (p := ⟨gb, ob + i, none⟩) hgb).trans (hcb i hlt)
      have hlt' : (i : Int) < (l.length : Int) := by omega
      obtain ⟨n0, n1⟩ := h64.nth hlt
      have HT := Lib.hid (wordsS_take s hlt)
      have HB := Lib.hid hb
      clear hcb hb
      generalize nth l i = n at *
      have hns := numS_size n0 n1
      have p := Lib.hid (num_any wr n n0 n1)
      clear n0 n1
      generalize wordsS s (l.take i) = S at *
      have g1 : ¬ 9223372036854775807 < 1 + (numS n).size := by omega
      have g2 : ¬ 9223372036854775807 < S.size + (spS ++ numS n).size := by rw [ByteArray.size_append, show spS.size = 1 from rfl]; omega
      go_wp2_with fail
      refine p.out.mono ?_
      rintro e w1 ⟨rfl, b1⟩
      go_wp2_with fail
      go_roundw
      case rel => exact ⟨i + 1, by omega, by rw [HT.out]; rfl, by go_num, HB.out.trans (b1.mono HB.out.size)⟩
      case measure => simp [intOf]; omega
    · obtain rfl : i = l.length := by omega
      have hge : ¬ (l.length : Int) < (l.length : Int) := by omega
      rw [List.take_length] at hsz ⊢
      have HB := Lib.hid hb
      have g : ¬ 9223372036854775807 < (wordsS s l).size + 1 := by omega
      clear hb
      go_wp2_with fail
      go_ret
      exact ⟨rfl, HB.out⟩

set_option maxRecDepth 100000 in
set_option maxHeartbeats 4000000 in
theorem rline_any (w : World) (s : ByteArray) (a : Option Addr) (c : Nat) (l : List Int) (hr : Row .i64 w a l.length l) (hl : l.length ≤ 1000) (h64 : I64s l) (hs : s.size ≤ 1000000) :
    Calls Try.prog 65 #[.string s, .slice a l.length c] w fun e w' => e = .returned (.string (lineS s l)) ∧ Below w.heap.size w w' := by
  go_enter Try.func65, Try.ntmps65
  go_wp2_with fail
  go_loopw [0, 5] (fun sv iv wr => ∃ i : Nat, i ≤ l.length ∧ sv = .string (wordsS s (l.take i)) ∧ iv = .int .i64 (i : Int) ∧ Below w.heap.size w wr) (fun _ iv _ => l.length - (intOf iv).toNat)
  case atStart => exact ⟨0, by omega, rfl, rfl, Below.refl _ _⟩
  case round =>
    obtain ⟨i, hi, rfl, rfl, hb⟩ := hrel
    have hsz := wordsS_size (l.take i) s (h64.tk i)
    rw [List.length_take] at hsz
    by_cases hlt : i < l.length
    · obtain ⟨gb, ob, rfl, hgb, hcb⟩ := hr.2 (by omega)
      have c0 := (hb.cell (p := ⟨gb, ob + i, none⟩) hgb).trans (hcb i hlt)
      have hlt' : (i : Int) < (l.length : Int) := by omega
      obtain ⟨n0, n1⟩ := h64.nth hlt
      have HT := Lib.hid (wordsS_take s hlt)
      have HB := Lib.hid hb
      clear hcb hb
      generalize nth l i = n at *
      have hns := numS_size n0 n1
      have p := Lib.hid (rnum_any wr n n0 n1)
      clear n0 n1
      generalize wordsS s (l.take i) = S at *
      have g1 : ¬ 9223372036854775807 < S.size + 1 := by omega
      have g2 : ¬ 9223372036854775807 < (S ++ ({ data := #[32] } : ByteArray)).size + (numS n).size := by rw [ByteArray.size_append, show ({ data := #[32] } : ByteArray).size = 1 from rfl]; omega
      have g3 : ¬ 9223372036854775807 < S.size + 1 + (numS n).size := by omega
      go_wp2_with fail
      refine p.out.mono ?_
      rintro e w1 ⟨rfl, b1⟩
      go_wp2_with fail
      go_roundw
      case rel => exact ⟨i + 1, by omega, by rw [HT.out, ← ByteArray.append_assoc]; rfl, by go_num, HB.out.trans (b1.mono HB.out.size)⟩
      case measure => simp [intOf]; omega
    · obtain rfl : i = l.length := by omega
      have hge : ¬ (l.length : Int) < (l.length : Int) := by omega
      rw [List.take_length] at hsz ⊢
      have HB := Lib.hid hb
      have g : ¬ 9223372036854775807 < (wordsS s l).size + 1 := by omega
      clear hb
      go_wp2_with fail
      go_ret
      exact ⟨rfl, HB.out⟩
end Go.Proofs.Ytlhoffhagfhbcaa.Dif
namespace Go.Proofs.Ytlhoffhagfhbcaa.Dif
open Go.RowKit Go.Proofs.Ytlhoffhagfhbcaa.Byt
set_option linter.all false

/-- Texts in memory. -/
def SRow (w : World) (a : Option Addr) (ss : List ByteArray) : Prop :=
  0 < ss.length → ∃ b off, a = some ⟨b, off, none⟩ ∧ b < w.heap.size ∧ ∀ j, j < ss.length → w.cell? ⟨b, off + j, none⟩ = some (.string (ss.getD j ByteArray.empty))
theorem SRow.below {w w' : World} {a : Option Addr} {ss : List ByteArray} (h : SRow w a ss) (hb : Below w.heap.size w w') : SRow w' a ss := fun hp => by
  obtain ⟨b, off, rfl, hlt, hc⟩ := h hp
  exact ⟨b, off, rfl, Nat.lt_of_lt_of_le hlt hb.size, fun j hj => (hb.cell (p := ⟨b, off + j, none⟩) hlt).trans (hc j hj)⟩
/-- A field: its name and its number. -/
def fcs (f : ByteArray × Int) : List Value := [.string f.1, .int .i64 f.2]
theorem fcs_len (f : ByteArray × Int) : (fcs f).length = 2 := rfl
theorem fcs_one (f : ByteArray × Int) : ∀ u ∈ fcs f, u.oneCell' = true := by
  intro u hu
  simp [fcs] at hu
  rcases hu with rfl | rfl <;> rfl
theorem infoF : (Try.prog.info? 40).map (fun i => (i.zero, i.size, i.bytes)) = some (some (.agg #[.string { data := #[] }, .int .i64 0]), 2, 24) := by kernel_rfl
/-- Fields in a slice that was made since. -/
structure MkF (w : World) (v : Value) (fs : List (ByteArray × Int)) (W : World) : Prop where
  out : On W 40 2 v fs.length (flat fcs fs)
  below : Below w.heap.size w W
  own : ∀ g, v.ownBlock = some g → w.heap.size ≤ g
theorem MkF.nil (w : World) : MkF w (.slice none 0 0) [] w := ⟨On.nil _ _ _, Below.refl _ _, fun k hk => by simp [Value.ownBlock] at hk⟩
theorem MkF.app {w W W1 W' : World} {v v' : Value} {fs gs : List (ByteArray × Int)} (h : MkF w v fs W) (h1 : Below W.heap.size W W1) (hon : On W' 40 2 v' (fs.length + gs.length) (flat fcs fs ++ flat fcs gs)) (hg : W1.grownBy W' v.ownBlock)
    (hv : v'.ownBlock = v.ownBlock ∨ v'.ownBlock = some W1.heap.size) : MkF w v' (fs ++ gs) W' := by
  have ht : Touch (OwnB v) W W' := (Touch.of_below h1 : Touch (OwnB v) W W1).grown hg (fun k hk => .inl hk)
  refine ⟨?_, h.below.trans (ht.below h.below.size (fun k hk => h.own k hk)), fun g hg' => ?_⟩
  · rw [List.length_append, flat_app]
    exact hon
  · rcases hv with e | e
    · exact h.own g (by rw [← e]; exact hg')
    · rw [e] at hg'; cases hg'; exact Nat.le_trans h.below.size h1.size
theorem MkF.slice {w W : World} {v : Value} {fs : List (ByteArray × Int)} (h : MkF w v fs W) : ∃ a c, v = .slice a fs.length c := by
  obtain ⟨a, c, rfl, _⟩ := On.slice h.out
  exact ⟨a, c, rfl⟩

def namedF (head : ByteArray) (ss : List ByteArray) (l : List Int) (i : Nat) : List (ByteArray × Int) := (List.range i).map fun j => (head ++ ss.getD j ByteArray.empty, nth l j)
theorem namedF_len (head : ByteArray) (ss : List ByteArray) (l : List Int) (i : Nat) : (namedF head ss l i).length = i := by simp [namedF]
theorem namedF_snoc (head : ByteArray) (ss : List ByteArray) (l : List Int) (i : Nat) : namedF head ss l (i + 1) = namedF head ss l i ++ [(head ++ ss.getD i ByteArray.empty, nth l i)] := by simp [namedF, List.range_succ]

set_option maxRecDepth 100000 in
set_option maxHeartbeats 4000000 in
theorem flag_any (w : World) (b : Bool) : Calls Try.prog 59 #[.bool b] w fun e w' => e = .returned (.int .i64 (if b then 1 else 0)) ∧ w' = w := by
  cases b
  · go_enter Try.func59, Try.ntmps59
    go_wp2_with fail
    go_ret
    exact ⟨rfl, by first | trivial | rfl⟩
  · go_enter Try.func59, Try.ntmps59
    go_wp2_with fail
    go_ret
    exact ⟨rfl, by first | trivial | rfl⟩

def bodyNm : List ByteArray := [{ data := #[120] }, { data := #[121] }, { data := #[118, 120] }, { data := #[118, 121] }, { data := #[108, 105, 102, 101] }, { data := #[99, 111, 111, 108] }, { data := #[102, 97, 99, 105, 110, 103] }]
set_option maxRecDepth 100000 in
set_option maxHeartbeats 4000000 in
theorem bnames_any (w : World) : Calls Try.prog 57 #[] w fun e w' => e = .returned (.slice (some ⟨w.heap.size, 0, none⟩) 7 7) ∧ w' = w.alloc (.cells (bodyNm.map Value.string).toArray 9) := by
  go_enter Try.func57, Try.ntmps57
  go_wp2_with fail
  go_ret
  exact ⟨rfl, by first | trivial | rfl⟩
def shotNm : List ByteArray := [{ data := #[111, 110] }, { data := #[120] }, { data := #[121] }, { data := #[118, 120] }, { data := #[111, 119, 110, 101, 114] }, { data := #[102, 114, 97, 109, 101, 115] }]
set_option maxRecDepth 100000 in
set_option maxHeartbeats 4000000 in
theorem snames_any (w : World) : Calls Try.prog 58 #[] w fun e w' => e = .returned (.slice (some ⟨w.heap.size, 0, none⟩) 6 6) ∧ w' = w.alloc (.cells (shotNm.map Value.string).toArray 9) := by
  go_enter Try.func58, Try.ntmps58
  go_wp2_with fail
  go_ret
  exact ⟨rfl, by first | trivial | rfl⟩
theorem srow_new (w : World) (ss : List ByteArray) : SRow (w.alloc (.cells (ss.map Value.string).toArray 9)) (some ⟨w.heap.size, 0, none⟩) ss := fun _ =>
  ⟨_, _, rfl, by simp, fun j hj => by
    rw [Nat.zero_add, (Blk.new w 9 (ss.map Value.string).toArray).cell j]
    simp [List.getD, hj]⟩
set_option maxRecDepth 100000 in
set_option maxHeartbeats 4000000 in
theorem named_any (w : World) (head : ByteArray) (an al : Option Addr) (cn cl : Nat) (ss : List ByteArray) (l : List Int) (hn : SRow w an ss) (hr : Row .i64 w al l.length l) (hl : l.length ≤ ss.length) (h10 : l.length ≤ 100) (hh : head.size ≤ 1000000)
    (hss : ∀ j, j < ss.length → (ss.getD j ByteArray.empty).size ≤ 1000000) :
    Calls Try.prog 55 #[.string head, .slice an ss.length cn, .slice al l.length cl] w fun e w' => ∃ v, e = .returned v ∧ MkF w v (namedF head ss l l.length) w' := by
  obtain ⟨i0, hi, hz0, hz1, hz2⟩ := info_parts infoF
  go_enter Try.func55, Try.ntmps55
  go_wp2_with fail
  go_loopw [7, 12] (fun v iv wr => ∃ i : Nat, i ≤ l.length ∧ iv = .int .i64 (i : Int) ∧ MkF w v (namedF head ss l i) wr) (fun _ iv _ => l.length - (intOf iv).toNat)
  case atStart => exact ⟨0, by omega, rfl, MkF.nil w⟩
  case round =>
    obtain ⟨i, hi', rfl, hm⟩ := hrel
    by_cases hlt : i < l.length
    · obtain ⟨gb, ob, rfl, hgb, hcb⟩ := hr.2 (by omega)
      obtain ⟨gn, on, rfl, hgn, hcn⟩ := hn (by omega)
      have c0 := (hm.below.cell (p := ⟨gb, ob + i, none⟩) hgb).trans (hcb i hlt)
      have c1 := (hm.below.cell (p := ⟨gn, on + i, none⟩) hgn).trans (hcn i (by omega))
      have hz := hss i (by omega)
      have hlt' : (i : Int) < (l.length : Int) := by omega
      have hlt2 : (i : Int) < (ss.length : Int) := by omega
      have HS := Lib.hid (namedF_snoc head ss l i)
      have hL := namedF_len head ss l i
      clear hcb hcn
      generalize nth l i = n at *
      generalize ss.getD i ByteArray.empty = s at *
      obtain ⟨fs, hfs⟩ : ∃ fs, fs = namedF head ss l i := ⟨_, rfl⟩
      rw [← hfs] at HS hL hm
      have hg : ¬ 9223372036854775807 < head.size + s.size := by omega
      have hm2 := hm
      obtain ⟨a, c, rfl⟩ := hm2.slice
      have HM := Lib.hid hm
      have X := Lib.hid (On.alloc hm.out (.cells (fcs (head ++ s, n)).toArray 40))
      have hb1 := Lib.hid (Below.alloc (Below.refl wr.heap.size wr) (Nat.le_refl _) (.cells (fcs (head ++ s, n)).toArray 40))
      have hlf : (flat fcs [(head ++ s, n)]).length = 1 * 2 := by simp [flat, fcs]
      have hsr : Src (wr.alloc (.cells (fcs (head ++ s, n)).toArray 40)) (some ⟨wr.heap.size, 0, none⟩) 1 (flat fcs [(head ++ s, n)]) := by
        have := src_new wr 40 1 (fcs (head ++ s, n))
        simpa [flat] using this
      clear hm hm2 hfs
      go_wp2_with (at_builtin; refine wpList_append_on _ (by rfl) _ _ 33 (by rfl) 40 i0 _ 2 24 Try.underlying33 hi hz0 hz1 hz2 (by rfl) (by omega) (.slice a fs.length c) fs.length (flat fcs fs) (by rfl) X.out (some ⟨wr.heap.size, 0, none⟩) 1 1 (flat fcs [(head ++ s, n)]) (by rfl) hlf hsr (one_flat fcs_one _) (by simp only [maxLen]; omega) (by omega) ?_; intro v' w' hon hg hv')
      go_roundw
      case rel => exact ⟨i + 1, by omega, by go_num, by rw [HS.out]; exact HM.out.app hb1.out hon hg hv'⟩
      case measure => simp [intOf]; omega
    · obtain rfl : i = l.length := by omega
      have hge : ¬ (l.length : Int) < (l.length : Int) := by omega
      have hm2 := hm
      obtain ⟨a, c, rfl⟩ := hm2.slice
      have HM := Lib.hid hm
      clear hm hm2
      go_wp2_with fail
      go_ret
      exact ⟨_, rfl, HM.out⟩
end Go.Proofs.Ytlhoffhagfhbcaa.Dif
namespace Go.Proofs.Ytlhoffhagfhbcaa
set_option linter.all false

/-- The i-th digit. -/
def dig (n i : Nat) : Nat := n / 65536 ^ i % 65536
theorem dig_lt (n i : Nat) : dig n i < 65536 := Nat.mod_lt _ (by decide)
theorem pow_pos' (i : Nat) : 0 < 65536 ^ i := Nat.pow_pos (by decide)
theorem mod_succ (n i : Nat) : n % 65536 ^ (i + 1) = n % 65536 ^ i + 65536 ^ i * dig n i := by
  unfold dig; rw [Nat.pow_succ, Nat.mod_mul]
theorem div_succ (n i : Nat) : n / 65536 ^ i = dig n i + 65536 * (n / 65536 ^ (i + 1)) := by
  unfold dig
  rw [Nat.pow_succ, ← Nat.div_div_eq_div_mul]
  omega
theorem dig_big {n i : Nat} (h : n < 65536 ^ i) : dig n i = 0 := by unfold dig; rw [Nat.div_eq_of_lt h]
theorem dig_big' {n i j : Nat} (h : n < 65536 ^ i) (hj : i ≤ j) : dig n j = 0 := dig_big (Nat.lt_of_lt_of_le h (Nat.pow_le_pow_right (by decide) hj))

/-! addition -/
def car (m n i : Nat) : Nat := (m % 65536 ^ i + n % 65536 ^ i) / 65536 ^ i
theorem car_zero (m n : Nat) : car m n 0 = 0 := by simp [car, Nat.mod_one]
theorem car_le (m n i : Nat) : car m n i ≤ 1 := by
  unfold car
  have hp := pow_pos' i
  have a := Nat.mod_lt m hp
  have b := Nat.mod_lt n hp
  have : (m % 65536 ^ i + n % 65536 ^ i) / 65536 ^ i < 2 := (Nat.div_lt_iff_lt_mul hp).2 (by omega)
  omega
theorem div_add_car (m n i : Nat) : (m + n) / 65536 ^ i = m / 65536 ^ i + n / 65536 ^ i + car m n i := by
  unfold car
  have hp := pow_pos' i
  conv => lhs; rw [← Nat.div_add_mod m (65536 ^ i), ← Nat.div_add_mod n (65536 ^ i)]
  rw [show 65536 ^ i * (m / 65536 ^ i) + m % 65536 ^ i + (65536 ^ i * (n / 65536 ^ i) + n % 65536 ^ i) = (m % 65536 ^ i + n % 65536 ^ i) + 65536 ^ i * (m / 65536 ^ i + n / 65536 ^ i) by rw [Nat.mul_add]; omega]
  rw [Nat.add_mul_div_left _ _ hp]
  omega
theorem add_dig (m n i : Nat) : (dig m i + dig n i + car m n i) % 65536 = dig (m + n) i := by
  have h := div_add_car m n i
  unfold dig
  rw [h]
  omega
theorem add_car (m n i : Nat) : (dig m i + dig n i + car m n i) / 65536 = car m n (i + 1) := by
  have h := div_add_car m n i
  have h1 := div_add_car m n (i + 1)
  have a := div_succ m i
  have b := div_succ n i
  have c := div_succ (m + n) i
  have d := add_dig m n i
  omega

/-! subtraction -/
def bor (m n i : Nat) : Nat := if m % 65536 ^ i < n % 65536 ^ i then 1 else 0
theorem bor_zero (m n : Nat) : bor m n 0 = 0 := by simp [bor, Nat.mod_one]
theorem bor_le (m n i : Nat) : bor m n i ≤ 1 := by unfold bor; split <;> omega
theorem div_sub_bor (m n i : Nat) (h : n ≤ m) : (m - n) / 65536 ^ i + n / 65536 ^ i + bor m n i = m / 65536 ^ i := by
  have hp := pow_pos' i
  have hm := Nat.div_add_mod m (65536 ^ i)
  have hn := Nat.div_add_mod n (65536 ^ i)
  have lm := Nat.mod_lt m hp
  have ln := Nat.mod_lt n hp
  generalize hB : 65536 ^ i = B at *
  have hq : n / B ≤ m / B := Nat.div_le_div_right h
  unfold bor
  rw [hB]
  split
  · rename_i hlt
    have hq2 : n / B + 1 ≤ m / B := by
      rcases Nat.lt_or_ge (n / B) (m / B) with h1 | h1
      · omega
      · have : m / B = n / B := by omega
        rw [this] at hm; omega
    obtain ⟨k, hk⟩ : ∃ k, m / B = n / B + 1 + k := ⟨m / B - (n / B + 1), by omega⟩
    have e : m - n = (B + m % B - n % B) + B * k := by
      rw [hk, Nat.mul_add, Nat.mul_add, Nat.mul_one] at hm; omega
    rw [e, Nat.add_mul_div_left _ _ hp, Nat.div_eq_of_lt (by omega), hk]; omega
  · rename_i hge
    obtain ⟨k, hk⟩ : ∃ k, m / B = n / B + k := ⟨m / B - n / B, by omega⟩
    have e : m - n = (m % B - n % B) + B * k := by
      rw [hk, Nat.mul_add] at hm; omega
    rw [e, Nat.add_mul_div_left _ _ hp, Nat.div_eq_of_lt (by omega), hk]; omega
theorem sub_dig (m n i : Nat) (h : n ≤ m) : (dig m i + 65536 - dig n i - bor m n i) % 65536 = dig (m - n) i := by
  have h1 := div_sub_bor m n i h
  have hb := bor_le m n i
  unfold dig
  omega
theorem sub_bor (m n i : Nat) (h : n ≤ m) : 1 - (dig m i + 65536 - dig n i - bor m n i) / 65536 = bor m n (i + 1) := by
  have h0 := div_sub_bor m n i h
  have h1 := div_sub_bor m n (i + 1) h
  have a := div_succ m i
  have b := div_succ n i
  have c := div_succ (m - n) i
  have hb := bor_le m n i
  have hb2 := bor_le m n (i + 1)
  have x := dig_lt m i
  have y := dig_lt n i
  have z := dig_lt (m - n) i
  omega

/-! comparison -/
theorem lt_of_dig {m n i : Nat} (h : m / 65536 ^ (i + 1) = n / 65536 ^ (i + 1)) (hd : dig m i < dig n i) : m < n := by
  have a := div_succ m i
  have b := div_succ n i
  have : m / 65536 ^ i < n / 65536 ^ i := by omega
  exact Nat.lt_of_not_le fun hle => absurd (Nat.div_le_div_right (c := 65536 ^ i) hle) (by omega)
theorem eq_of_dig {m n i : Nat} (h : m / 65536 ^ (i + 1) = n / 65536 ^ (i + 1)) (hd : dig m i = dig n i) : m / 65536 ^ i = n / 65536 ^ i := by
  have a := div_succ m i
  have b := div_succ n i
  omega

/-! product by a digit -/
theorem dig_mul_pow (x i j : Nat) : dig (65536 ^ i * x) (i + j) = dig x j := by
  unfold dig
  rw [Nat.pow_add, ← Nat.div_div_eq_div_mul, Nat.mul_div_cancel_left _ (pow_pos' i)]
theorem dig_mul_pow_lo (x i j : Nat) (h : j < i) : dig (65536 ^ i * x) j = 0 := by
  unfold dig
  obtain ⟨k, rfl⟩ : ∃ k, i = j + (k + 1) := ⟨i - j - 1, by omega⟩
  rw [Nat.pow_add, Nat.mul_assoc, Nat.mul_div_cancel_left _ (pow_pos' j), Nat.pow_succ, Nat.mul_assoc, Nat.mul_comm (65536 ^ k), Nat.mul_assoc]
  exact Nat.mul_mod_right _ _
/-- What is carried behind k digits. -/
def mcar (x b k : Nat) : Nat := x * (b % 65536 ^ k) / 65536 ^ k
theorem mcar_zero (x b : Nat) : mcar x b 0 = 0 := by simp [mcar, Nat.mod_one]
theorem mcar_le (x b k : Nat) (hx : x < 65536) : mcar x b k < 65536 := by
  unfold mcar
  have hp := pow_pos' k
  rw [Nat.div_lt_iff_lt_mul hp]
  have h := Nat.mod_lt b hp
  rcases Nat.eq_zero_or_pos (b % 65536 ^ k) with h0 | h0
  · rw [h0]; omega
  · calc x * (b % 65536 ^ k) ≤ x * 65536 ^ k := Nat.mul_le_mul_left _ (by omega)
      _ < 65536 * 65536 ^ k := Nat.mul_lt_mul_of_pos_right hx hp
theorem div_mul_mcar (x b k : Nat) : x * b / 65536 ^ k = x * (b / 65536 ^ k) + mcar x b k := by
  unfold mcar
  have hp := pow_pos' k
  conv => lhs; rw [← Nat.div_add_mod b (65536 ^ k)]
  rw [Nat.mul_add, Nat.add_comm, show x * (65536 ^ k * (b / 65536 ^ k)) = 65536 ^ k * (x * (b / 65536 ^ k)) by rw [Nat.mul_left_comm], Nat.add_mul_div_left _ _ hp]
  omega
theorem mul_dig (x b k : Nat) : (x * dig b k + mcar x b k) % 65536 = dig (x * b) k := by
  have h := div_mul_mcar x b k
  have hb := div_succ b k
  unfold dig at *
  rw [h]
  conv => rhs; rw [hb]
  rw [Nat.mul_add, show x * (65536 * (b / 65536 ^ (k + 1))) = 65536 * (x * (b / 65536 ^ (k + 1))) by rw [Nat.mul_left_comm]]
  omega
theorem mul_car (x b k : Nat) : (x * dig b k + mcar x b k) / 65536 = mcar x b (k + 1) := by
  have h := div_mul_mcar x b k
  have h1 := div_mul_mcar x b (k + 1)
  have hb := div_succ b k
  have d := mul_dig x b k
  have c := div_succ (x * b) k
  rw [hb, Nat.mul_add, show x * (65536 * (b / 65536 ^ (k + 1))) = 65536 * (x * (b / 65536 ^ (k + 1))) by rw [Nat.mul_left_comm]] at h
  omega
theorem mcar_end (x b k : Nat) (h : b < 65536 ^ k) : mcar x b k = dig (x * b) k ∨ ¬ x < 65536 := by
  by_cases hx : x < 65536
  · left
    have h1 := div_mul_mcar x b k
    rw [Nat.div_eq_of_lt h, Nat.mul_zero, Nat.zero_add] at h1
    have := mcar_le x b k hx
    unfold dig
    rw [h1]; omega
  · exact .inr hx

end Go.Proofs.Ytlhoffhagfhbcaa
namespace Go.Proofs.Ytlhoffhagfhbcaa.Num
open Go.RowKit
set_option linter.all false

/-- The cells of a wide number whose digits are f. -/
def wcs (s : Bool) (f : Nat → Nat) : Array Value := #[.bool s, .int .u64 (f 0), .int .u64 (f 1), .int .u64 (f 2), .int .u64 (f 3), .int .u64 (f 4), .int .u64 (f 5), .int .u64 (f 6), .int .u64 (f 7), .int .u64 (f 8)]
def wv (s : Bool) (n : Nat) : Value := .agg (wcs s (dig n))
def WB (w : World) (b : Nat) (s : Bool) (f : Nat → Nat) : Prop := Blk w b 195 (wcs s f)
def upd (f : Nat → Nat) (k v : Nat) : Nat → Nat := fun j => if j = k then v else f j
section
variable {w w' : World} {b : Nat} {s : Bool} {f : Nat → Nat}
theorem wcs_get (s : Bool) (f : Nat → Nat) {i : Nat} (h : i < 9) : (wcs s f)[1 + i]? = some (.int .u64 (f i)) := by
  match i, h with
  | 0, _ | 1, _ | 2, _ | 3, _ | 4, _ | 5, _ | 6, _ | 7, _ | 8, _ => rfl
theorem wcs_set (s : Bool) (f : Nat → Nat) {i : Nat} (h : i < 9) (v : Nat) : (wcs s f).setIfInBounds (1 + i) (.int .u64 v) = wcs s (upd f i v) := by
  match i, h with
  | 0, _ | 1, _ | 2, _ | 3, _ | 4, _ | 5, _ | 6, _ | 7, _ | 8, _ => rfl
theorem wcs_congr (s : Bool) {f g : Nat → Nat} (h : ∀ j, j < 9 → f j = g j) : wcs s f = wcs s g := by
  unfold wcs
  rw [h 0 (by omega), h 1 (by omega), h 2 (by omega), h 3 (by omega), h 4 (by omega), h 5 (by omega), h 6 (by omega), h 7 (by omega), h 8 (by omega)]
theorem WB.at_ (h : WB w b s f) {i : Nat} (hi : i < 9) : w.cell? ⟨b, 1 + i, none⟩ = some (.int .u64 (f i)) := (Blk.cell h (1 + i)).trans (wcs_get s f hi)
theorem WB.fr (h : WB w b s f) (i : Nat) : w.frozen? ⟨b, i, none⟩ = false := Blk.frozen h i
theorem WB.set_ (h : WB w b s f) {i : Nat} (hi : i < 9) (v : Nat) : WB (w.setCell ⟨b, 1 + i, none⟩ (.int .u64 v)) b s (upd f i v) := by
  have := Blk.set_ h (1 + i) (.int .u64 v)
  rw [wcs_set s f hi v] at this
  exact this
theorem WB.congr {g : Nat → Nat} (h : WB w b s f) (hg : ∀ j, j < 9 → f j = g j) : WB w b s g := by unfold WB at *; rw [← wcs_congr s hg]; exact h
theorem WB.far (h : WB w b s f) {p : Addr} (hp : b ≠ p.block) (u : Value) : WB (w.setCell p u) b s f := Blk.far h hp u
theorem WB.drewN (h : WB w b s f) (n : Nat) : WB (w.drewN n) b s f := h
theorem WB.drew (h : WB w b s f) : WB w.drew b s f := h
theorem WB.alloc (h : WB w b s f) (o : Obj) : WB (w.alloc o) b s f := Blk.alloc h o
theorem WB.below {B : Nat} (h : WB w b s f) (hb : Below B w w') (hB : b < B) : WB w' b s f := Blk.below h hb hB
theorem WB.cells (h : WB w b s f) : w.cell? ⟨b, 0, none⟩ = some (.bool s) ∧ w.cell? ⟨b, 1, none⟩ = some (.int .u64 (f 0)) ∧ w.cell? ⟨b, 2, none⟩ = some (.int .u64 (f 1)) ∧ w.cell? ⟨b, 3, none⟩ = some (.int .u64 (f 2)) ∧ w.cell? ⟨b, 4, none⟩ = some (.int .u64 (f 3)) ∧
    w.cell? ⟨b, 5, none⟩ = some (.int .u64 (f 4)) ∧ w.cell? ⟨b, 6, none⟩ = some (.int .u64 (f 5)) ∧ w.cell? ⟨b, 7, none⟩ = some (.int .u64 (f 6)) ∧ w.cell? ⟨b, 8, none⟩ = some (.int .u64 (f 7)) ∧ w.cell? ⟨b, 9, none⟩ = some (.int .u64 (f 8)) :=
  ⟨Blk.cell h 0, Blk.cell h 1, Blk.cell h 2, Blk.cell h 3, Blk.cell h 4, Blk.cell h 5, Blk.cell h 6, Blk.cell h 7, Blk.cell h 8, Blk.cell h 9⟩
theorem WB.frs (h : WB w b s f) : w.frozen? ⟨b, 0, none⟩ = false ∧ w.frozen? ⟨b, 1, none⟩ = false ∧ w.frozen? ⟨b, 2, none⟩ = false ∧ w.frozen? ⟨b, 3, none⟩ = false ∧ w.frozen? ⟨b, 4, none⟩ = false ∧
    w.frozen? ⟨b, 5, none⟩ = false ∧ w.frozen? ⟨b, 6, none⟩ = false ∧ w.frozen? ⟨b, 7, none⟩ = false ∧ w.frozen? ⟨b, 8, none⟩ = false ∧ w.frozen? ⟨b, 9, none⟩ = false :=
  ⟨Blk.frozen h 0, Blk.frozen h 1, Blk.frozen h 2, Blk.frozen h 3, Blk.frozen h 4, Blk.frozen h 5, Blk.frozen h 6, Blk.frozen h 7, Blk.frozen h 8, Blk.frozen h 9⟩
end
theorem WB.new (w : World) (s : Bool) (f : Nat → Nat) : WB (w.alloc (.cells (wcs s f) 195)) w.heap.size s f := Blk.new _ _ _

/-- Digits below k are the sum's. -/
def sumF (m n k : Nat) : Nat → Nat := fun j => if j < k then dig (m + n) j else dig m j
theorem sumF_at (m n k : Nat) : sumF m n k k = dig m k := by simp [sumF]
theorem sumF_succ (m n k j : Nat) : upd (sumF m n k) k ((dig m k + dig n k + car m n k) % 65536) j = sumF m n (k + 1) j := by
  unfold upd sumF
  rw [add_dig]
  by_cases h : j = k
  · subst h; simp
  · rw [if_neg h]; by_cases h2 : j < k
    · rw [if_pos h2, if_pos (by omega)]
    · rw [if_neg h2, if_neg (by omega)]

/-- A new one's cells. -/
def wz : Array Value := #[.bool false, .int .u64 0, .int .u64 0, .int .u64 0, .int .u64 0, .int .u64 0, .int .u64 0, .int .u64 0, .int .u64 0, .int .u64 0]
theorem WB.zero (w : World) : WB (w.alloc (.cells wz 195)) w.heap.size false (fun _ => 0) := Blk.new _ _ _
/-- The boxes of two parameters, and the result's. -/
theorem boxes2 (w : World) (sa sb : Bool) (f g : Nat → Nat) : ∃ W1, W1 = ((w.alloc (.cells (wcs sa f) 195)).alloc (.cells (wcs sb g) 195)).alloc (.cells wz 195) ∧
    WB W1 w.heap.size sa f ∧ WB W1 (w.heap.size + 1) sb g ∧ WB W1 (w.heap.size + 1 + 1) false (fun _ => 0) ∧ Below w.heap.size w W1 ∧ W1.heap.size = w.heap.size + 3 := by
  refine ⟨_, rfl, ((WB.new _ _ _).alloc _).alloc _, ?_, ?_, (((Below.refl _ w).alloc (Nat.le_refl _) _).alloc (by simp) _).alloc (by simp; omega) _, by simp⟩
  · have := WB.new (w.alloc (.cells (wcs sa f) 195)) sb g
    simpa using this.alloc _
  · have := WB.zero ((w.alloc (.cells (wcs sa f) 195)).alloc (.cells (wcs sb g) 195))
    simpa using this

/-- What a loop over digits carries: the first box has turned, the second one and the result's haven't. -/
def DigInv (w : World) (sa sb : Bool) (f g : Nat → Nat) (wr : World) : Prop :=
  WB wr w.heap.size sa f ∧ WB wr (w.heap.size + 1) sb g ∧ WB wr (w.heap.size + 1 + 1) false (fun _ => 0) ∧ Below w.heap.size w wr

set_option maxRecDepth 100000 in
set_option maxHeartbeats 2000000 in
theorem plus_any (w : World) (sa sb : Bool) (m n : Nat) :
    Calls Try.prog 147 #[wv sa m, wv sb n] w fun e w' => e = .returned (wv sa (m + n)) ∧ Below w.heap.size w w' := by
  obtain ⟨W1, hW1, ha, hb, hc, hB1, hz1⟩ := boxes2 w sa sb (dig m) (dig n)
  unfold wv
  unfold wcs wz at hW1
  conv => arg 3; unfold wcs
  go_enter Try.func147, Try.ntmps147
  go_upto_region 1 with fail
  rw [← hW1]
  clear hW1
  go_wp2_with fail
  go_loopw [5, 6] (fun c i wr => ∃ k : Nat, k ≤ 9 ∧ i = .int .i64 k ∧ c = .int .u64 (car m n k) ∧ DigInv w sa sb (sumF m n k) (dig n) wr) (fun _ i _ => 9 - (intOf i).toNat)
  case atStart => exact ⟨0, by omega, rfl, by rw [car_zero]; rfl, ha.congr (fun j _ => by simp [sumF]), hb, hc, hB1⟩
  case round =>
    clear ha hb hc hB1
    obtain ⟨k, hk, rfl, rfl, ha, hb, hc, hB⟩ := hrel
    by_cases hlt : k < 9
    · have c1 := ha.at_ hlt
      rw [sumF_at] at c1
      have c2 := hb.at_ hlt
      have f1 := ha.fr (1 + k)
      have l1 := dig_lt m k
      have l2 := dig_lt n k
      have l3 := car_le m n k
      have a1 := Lib.hid (add_car m n k)
      have a2 := Lib.hid (sumF_succ m n k)
      have i1 : (0 : Int) ≤ (k : Int) := by omega
      have i2 : (k : Int) < 9 := by omega
      generalize hx : dig m k = x at *
      generalize hy : dig n k = y at *
      generalize hcc : car m n k = c at *
      clear hx hy hcc
      have q1 : IntKind.u64.wrap ((x : Int) + (y : Int)) = (x : Int) + (y : Int) := IntWalk.u64_in _ (by omega)
      have q2 : IntKind.u64.wrap ((x : Int) + (y : Int) + (c : Int)) = (x : Int) + (y : Int) + (c : Int) := IntWalk.u64_in _ (by omega)
      go_wp2_with fail
      go_quiet (fail)
      clear q1 q2
      go_wp2_with fail
      go_roundw
      case rel =>
        refine ⟨k + 1, by omega, by go_num, by rw [← a1.out]; go_num, ?_, ?_, ?_, ?_⟩
        · have := ((ha.drewN nq).set_ hlt ((x + y + c) % 65536)).congr (fun j _ => a2.out j)
          simpa using this
        · exact (hb.drewN nq).far (by simp) _
        · exact (hc.drewN nq).far (by simp; omega) _
        · exact (below_drewN hB nq).setCell (p := ⟨w.heap.size, 1 + k, none⟩) (Nat.le_refl _) _
      case measure => simp [intOf]; omega
    · obtain rfl : k = 9 := by omega
      have ha' := ha.congr (g := dig (m + n)) (fun j hj => by simp [sumF, hj])
      obtain ⟨k0, k1, k2, k3, k4, k5, k6, k7, k8, k9⟩ := ha'.cells
      obtain ⟨g0, g1, g2, g3, g4, g5, g6, g7, g8, g9⟩ := hc.frs
      obtain ⟨h0, h1, h2, h3, h4, h5, h6, h7, h8, h9⟩ := hc.cells
      go_wp2_with fail
      refine bodyPost_ret (v := .agg #[.bool sa, .int .u64 (dig (m + n) 0), .int .u64 (dig (m + n) 1), .int .u64 (dig (m + n) 2), .int .u64 (dig (m + n) 3), .int .u64 (dig (m + n) 4), .int .u64 (dig (m + n) 5), .int .u64 (dig (m + n) 6), .int .u64 (dig (m + n) 7), .int .u64 (dig (m + n) 8)]) (by simp [results, Try.results147, go_sem, h0, h1, h2, h3, h4, h5, h6, h7, h8, h9]) rfl ⟨rfl, ?_⟩
      repeat (refine Below.setCell ?_ (by simp; omega) _)
      exact hB

def subF (m n k : Nat) : Nat → Nat := fun j => if j < k then dig (m - n) j else dig m j
theorem subF_at (m n k : Nat) : subF m n k k = dig m k := by simp [subF]
theorem subF_succ (m n k j : Nat) (h : n ≤ m) : upd (subF m n k) k ((dig m k + 65536 - dig n k - bor m n k) % 65536) j = subF m n (k + 1) j := by
  unfold upd subF
  rw [sub_dig m n k h]
  by_cases h : j = k
  · subst h; simp
  · rw [if_neg h]; by_cases h2 : j < k
    · rw [if_pos h2, if_pos (by omega)]
    · rw [if_neg h2, if_neg (by omega)]

set_option maxRecDepth 100000 in
set_option maxHeartbeats 2000000 in
theorem minus_any (w : World) (sa sb : Bool) (m n : Nat) (hle : n ≤ m) :
    Calls Try.prog 149 #[wv sa m, wv sb n] w fun e w' => e = .returned (wv sa (m - n)) ∧ Below w.heap.size w w' := by
  obtain ⟨W1, hW1, ha, hb, hc, hB1, hz1⟩ := boxes2 w sa sb (dig m) (dig n)
  unfold wv
  unfold wcs wz at hW1
  conv => arg 3; unfold wcs
  go_enter Try.func149, Try.ntmps149
  go_upto_region 1 with fail
  rw [← hW1]
  clear hW1
  go_wp2_with fail
  go_loopw [5, 6] (fun c i wr => ∃ k : Nat, k ≤ 9 ∧ i = .int .i64 k ∧ c = .int .u64 (bor m n k) ∧ DigInv w sa sb (subF m n k) (dig n) wr) (fun _ i _ => 9 - (intOf i).toNat)
  case atStart => exact ⟨0, by omega, rfl, by rw [bor_zero]; rfl, ha.congr (fun j _ => by simp [subF]), hb, hc, hB1⟩
  case round =>
    clear ha hb hc hB1
    obtain ⟨k, hk, rfl, rfl, ha, hb, hc, hB⟩ := hrel
    by_cases hlt : k < 9
    · have c1 := ha.at_ hlt
      rw [subF_at] at c1
      have c2 := hb.at_ hlt
      have f1 := ha.fr (1 + k)
      have l1 := dig_lt m k
      have l2 := dig_lt n k
      have l3 := bor_le m n k
      have a1 := Lib.hid (sub_bor m n k hle)
      have a2 := Lib.hid (fun j => subF_succ m n k j hle)
      have i1 : (0 : Int) ≤ (k : Int) := by omega
      have i2 : (k : Int) < 9 := by omega
      generalize hx : dig m k = x at *
      generalize hy : dig n k = y at *
      generalize hcc : bor m n k = c at *
      clear hx hy hcc hle
      obtain ⟨t, ht⟩ : ∃ t, x + 65536 - y - c = t := ⟨_, rfl⟩
      rw [ht] at a1 a2
      have q0 : IntKind.u64.wrap ((x : Int) + 65536) = (x : Int) + 65536 := IntWalk.u64_in _ (by omega)
      have q1 : IntKind.u64.wrap ((x : Int) + 65536 - (y : Int)) = (x : Int) + 65536 - (y : Int) := IntWalk.u64_in _ (by omega)
      have q2 : IntKind.u64.wrap ((x : Int) + 65536 - (y : Int) - (c : Int)) = (t : Int) := by rw [IntWalk.u64_in _ (by omega)]; omega
      have t2 : t < 131072 := by omega
      have t3 : (t : Int) / 65536 ≤ 1 := by omega
      have t4 : 0 ≤ (t : Int) / 65536 := by omega
      clear ht
      go_wp2_with fail
      go_quiet (fail)
      clear q0 q1 q2
      go_wp2_with fail
      go_roundw
      case rel =>
        refine ⟨k + 1, by omega, by go_num, by rw [← a1.out]; go_num, ?_, ?_, ?_, ?_⟩
        · have := ((ha.drewN nq).set_ hlt (t % 65536)).congr (fun j _ => a2.out j)
          simpa using this
        · exact (hb.drewN nq).far (by simp) _
        · exact (hc.drewN nq).far (by simp; omega) _
        · exact (below_drewN hB nq).setCell (p := ⟨w.heap.size, 1 + k, none⟩) (Nat.le_refl _) _
      case measure => simp [intOf]; omega
    · obtain rfl : k = 9 := by omega
      have ha' := ha.congr (g := dig (m - n)) (fun j hj => by simp [subF, hj])
      obtain ⟨k0, k1, k2, k3, k4, k5, k6, k7, k8, k9⟩ := ha'.cells
      obtain ⟨g0, g1, g2, g3, g4, g5, g6, g7, g8, g9⟩ := hc.frs
      obtain ⟨h0, h1, h2, h3, h4, h5, h6, h7, h8, h9⟩ := hc.cells
      go_wp2_with fail
      refine bodyPost_ret (v := .agg #[.bool sa, .int .u64 (dig (m - n) 0), .int .u64 (dig (m - n) 1), .int .u64 (dig (m - n) 2), .int .u64 (dig (m - n) 3), .int .u64 (dig (m - n) 4), .int .u64 (dig (m - n) 5), .int .u64 (dig (m - n) 6), .int .u64 (dig (m - n) 7), .int .u64 (dig (m - n) 8)]) (by simp [results, Try.results149, go_sem, h0, h1, h2, h3, h4, h5, h6, h7, h8, h9]) rfl ⟨rfl, ?_⟩
      repeat (refine Below.setCell ?_ (by simp; omega) _)
      exact hB

set_option maxRecDepth 100000 in
set_option maxHeartbeats 2000000 in
theorem less_any (w : World) (sa sb : Bool) (m n : Nat) (hm : m < 65536 ^ 9) (hn : n < 65536 ^ 9) :
    Calls Try.prog 148 #[wv sa m, wv sb n] w fun e w' => e = .returned (.bool (decide (m < n))) ∧ Below w.heap.size w w' := by
  obtain ⟨W1, hW1, ha, hb, hB1⟩ : ∃ W1, W1 = (w.alloc (.cells (wcs sa (dig m)) 195)).alloc (.cells (wcs sb (dig n)) 195) ∧ WB W1 w.heap.size sa (dig m) ∧ WB W1 (w.heap.size + 1) sb (dig n) ∧ Below w.heap.size w W1 := by
    refine ⟨_, rfl, (WB.new _ _ _).alloc _, ?_, ((Below.refl _ w).alloc (Nat.le_refl _) _).alloc (by simp) _⟩
    have := WB.new (w.alloc (.cells (wcs sa (dig m)) 195)) sb (dig n)
    simpa using this
  have s0 : m / 65536 ^ 9 = n / 65536 ^ 9 := by rw [Nat.div_eq_of_lt hm, Nat.div_eq_of_lt hn]
  have S0 := Lib.hid s0
  clear s0 hm hn
  unfold wv
  unfold wcs at hW1
  conv => arg 3; unfold wcs
  go_enter Try.func148, Try.ntmps148
  go_upto_region 1 with fail
  rw [← hW1]
  clear hW1
  go_wp2_with fail
  go_loopw [5] (fun i wr => ∃ k : Nat, k ≤ 9 ∧ i = .int .i64 ((k : Int) - 1) ∧ Hid (m / 65536 ^ k = n / 65536 ^ k) ∧ WB wr w.heap.size sa (dig m) ∧ WB wr (w.heap.size + 1) sb (dig n) ∧ Below w.heap.size w wr) (fun i _ => (intOf i + 1).toNat)
  case atStart => exact ⟨9, by omega, rfl, S0, ha, hb, hB1⟩
  case round =>
    clear ha hb hB1 S0
    obtain ⟨k, hk, rfl, hd, ha, hb, hB⟩ := hrel
    match k, hk, hd with
    | 0, _, hd =>
      have e0 : decide (m < n) = false := by have := hd.out; simp at this; simp [this]
      have E0 := Lib.hid e0
      clear e0 hd
      rw [show (((0 : Nat) : Int) - 1) = -1 from rfl]
      go_wp2_with fail
      go_ret
      exact ⟨ret_bool E0.out.symm, hB⟩
    | j + 1, hj9, hd =>
      have hj : j < 9 := by omega
      rw [show (((j + 1 : Nat) : Int) - 1) = (j : Int) by omega]
      have c1 := ha.at_ hj
      have c2 := hb.at_ hj
      have l1 := dig_lt m j
      have l2 := dig_lt n j
      have i1 : (0 : Int) ≤ (j : Int) := by omega
      have i2 : (j : Int) < 9 := by omega
      have A1 := Lib.hid (fun h => eq_of_dig (i := j) hd.out h)
      have A2 := Lib.hid (fun h => lt_of_dig (i := j) hd.out h)
      have A3 := Lib.hid (fun h => lt_of_dig (i := j) (m := n) (n := m) hd.out.symm h)
      clear hd
      by_cases he : dig m j = dig n j
      · have A1' := Lib.hid (A1.out he)
        clear A1 A2 A3
        rw [he] at c1
        clear he l1
        generalize dig n j = x at c1 c2 l2
        go_wp2_with fail
        go_quiet (fail)
        go_wp2_with fail
        go_roundw
        case rel => exact ⟨j, by omega, by simp <;> rfl, A1', ha.drewN nq, hb.drewN nq, below_drewN hB nq⟩
        case measure => simp [intOf] <;> omega
      · have e0 : decide (dig m j < dig n j) = decide (m < n) := by
          by_cases h1 : dig m j < dig n j
          · rw [decide_eq_true h1, decide_eq_true (A2.out h1)]
          · have := A3.out (by omega); rw [decide_eq_false h1, decide_eq_false (by omega)]
        have E0 := Lib.hid e0
        clear e0
        clear A1 A2 A3
        generalize hx : dig m j = x at *
        generalize hy : dig n j = y at *
        clear hx hy
        have he2 : ((x : Int) == (y : Int)) = false := by simpa using (fun h => he (by omega) : ¬ (x : Int) = (y : Int))
        have he3 : ((x : Int) != (y : Int)) = true := by simp [bne, he2]
        clear he
        go_wp2_with fail
        go_quiet (fail)
        go_wp2_with fail
        go_quiet (fail)
        go_wp2_with fail
        go_ret
        refine ⟨ret_bool (by rw [← E0.out] <;> simp), ?_⟩
        first | exact below_drewN hB _ | exact below_drewN (below_drewN hB _) _

/-- The number that u is, behind its sign. -/
def ofF (m k : Nat) : Nat → Nat := fun j => if j < k then dig m j else 0
theorem ofF_succ (m k j : Nat) : upd (ofF m k) k (dig m k) j = ofF m (k + 1) j := by
  unfold upd ofF
  by_cases h : j = k
  · subst h; simp
  · rw [if_neg h]; by_cases h2 : j < k
    · rw [if_pos h2, if_pos (by omega)]
    · rw [if_neg h2, if_neg (by omega)]

theorem neg_neg64 (m : Nat) (h1 : 1 ≤ m) (h2 : m ≤ 9223372036854775808) : IntKind.u64.wrap (-IntKind.u64.wrap (-(m : Int))) = (m : Int) := by
  rw [IntKind.wrap_u64, IntKind.wrap_u64]; omega

set_option maxRecDepth 100000 in
set_option maxHeartbeats 2000000 in
theorem of_any (w : World) (n : Int) (h1 : -9223372036854775808 ≤ n) (h2 : n ≤ 9223372036854775807) :
    Calls Try.prog 141 #[.int .i64 n] w fun e w' => e = .returned (wv (decide (n < 0)) n.natAbs) ∧ Below w.heap.size w w' := by
  obtain ⟨W1, hW1, hr, hb, hB1⟩ : ∃ W1, W1 = (w.alloc (.cells wz 195)).alloc (.cells wz 195) ∧ WB W1 w.heap.size false (fun _ => 0) ∧ WB W1 (w.heap.size + 1) false (fun _ => 0) ∧ Below w.heap.size w W1 := by
    refine ⟨_, rfl, (WB.zero _).alloc _, ?_, ((Below.refl _ w).alloc (Nat.le_refl _) _).alloc (by simp) _⟩
    have := WB.zero (w.alloc (.cells wz 195))
    simpa using this
  obtain ⟨m, hm⟩ : ∃ m, m = n.natAbs := ⟨_, rfl⟩
  obtain ⟨sg, hsg⟩ : ∃ sg, sg = decide (n < 0) := ⟨_, rfl⟩
  rw [← hm, ← hsg]
  unfold wv wcs
  unfold wz at hW1
  have mle : m ≤ 9223372036854775808 := by omega
  by_cases hneg : n < 0
  · have hsg' : sg = true := by rw [hsg]; simpa using hneg
    subst hsg'
    obtain rfl : n = -(m : Int) := by omega
    have hm1 : 1 ≤ m := by omega
    clear hm hsg h1 h2
    have hw := neg_neg64 m hm1 mle
    have fb := hb.fr 0
    have cb := hb.cells.1
    go_enter Try.func141, Try.ntmps141
    go_upto_region 2 with fail
    rw [← hW1]
    clear hW1
    go_upto_region 6 with fail
    clear hw
    go_wp2_with fail
    go_loopw [4, 5] (fun u i wr => ∃ k : Nat, k ≤ 4 ∧ i = .int .i64 k ∧ u = .int .u64 ((m / 65536 ^ k : Nat) : Int) ∧ WB wr w.heap.size false (fun _ => 0) ∧ WB wr (w.heap.size + 1) true (ofF m k) ∧ Below w.heap.size w wr) (fun _ i _ => 4 - (intOf i).toNat)
    case atStart => exact ⟨0, by omega, rfl, by simp, by exact hr.far (by simp) _, by exact (Blk.set_ hb 0 (.bool true)), by exact hB1.setCell (p := ⟨w.heap.size + 1, 0, none⟩) (by simp) _⟩
    case round =>
      clear hr hb hB1
      obtain ⟨k, hk, rfl, rfl, hr, hb, hB⟩ := hrel
      by_cases hlt : k < 4
      · have f1 := hb.fr (1 + k)
        have c1 := hb.at_ (i := k) (by omega)
        have i1 : (0 : Int) ≤ (k : Int) := by omega
        have i2 : (k : Int) < 9 := by omega
        have a1 := Lib.hid (ofF_succ m k)
        have a2 := Lib.hid (show m / 65536 ^ k / 65536 = m / 65536 ^ (k + 1) by rw [Nat.div_div_eq_div_mul, Nat.pow_succ])
        have a3 := Lib.hid (show m / 65536 ^ k % 65536 = dig m k from rfl)
        have l1 : m / 65536 ^ k ≤ m := Nat.div_le_self _ _
        generalize m / 65536 ^ k = t at *
        go_wp2_with fail
        go_roundw
        case rel =>
          refine ⟨k + 1, by omega, by go_num, by rw [← a2.out]; go_num, hr.far (by simp) _, ?_, hB.setCell (p := ⟨w.heap.size + 1, 1 + k, none⟩) (by simp) _⟩
          have := (hb.set_ (i := k) (by omega) (dig m k)).congr (fun j _ => a1.out j)
          rw [← a3.out] at this
          simpa using this
        case measure => simp [intOf]; omega
      · obtain rfl : k = 4 := by omega
        have hb' := hb.congr (g := dig m) (fun j hj => by
          unfold ofF
          by_cases h : j < 4
          · rw [if_pos h]
          · rw [if_neg h, dig_big' (i := 4) (by omega) (by omega)])
        obtain ⟨k0, k1, k2, k3, k4, k5, k6, k7, k8, k9⟩ := hb'.cells
        obtain ⟨g0, g1, g2, g3, g4, g5, g6, g7, g8, g9⟩ := hr.frs
        obtain ⟨h0, h1, h2, h3, h4, h5, h6, h7, h8, h9⟩ := hr.cells
        go_wp2_with fail
        refine bodyPost_ret (v := .agg #[.bool true, .int .u64 (dig (m) 0), .int .u64 (dig (m) 1), .int .u64 (dig (m) 2), .int .u64 (dig (m) 3), .int .u64 (dig (m) 4), .int .u64 (dig (m) 5), .int .u64 (dig (m) 6), .int .u64 (dig (m) 7), .int .u64 (dig (m) 8)]) (by simp [results, Try.results141, go_sem, h0, h1, h2, h3, h4, h5, h6, h7, h8, h9]) rfl ⟨rfl, ?_⟩
        repeat (refine Below.setCell ?_ (by simp) _)
        exact hB
  · have hsg' : sg = false := by rw [hsg]; simpa using hneg
    subst hsg'
    obtain rfl : n = (m : Int) := by omega
    clear hm hsg h1
    have hw : IntKind.u64.wrap (m : Int) = (m : Int) := IntWalk.u64_in _ (by omega)
    go_enter Try.func141, Try.ntmps141
    go_upto_region 2 with fail
    rw [← hW1]
    clear hW1
    go_upto_region 6 with fail
    clear hw
    go_wp2_with fail
    go_loopw [4, 5] (fun u i wr => ∃ k : Nat, k ≤ 4 ∧ i = .int .i64 k ∧ u = .int .u64 ((m / 65536 ^ k : Nat) : Int) ∧ WB wr w.heap.size false (fun _ => 0) ∧ WB wr (w.heap.size + 1) false (ofF m k) ∧ Below w.heap.size w wr) (fun _ i _ => 4 - (intOf i).toNat)
    case atStart => exact ⟨0, by omega, rfl, by simp, hr, hb, hB1⟩
    case round =>
      clear hr hb hB1
      obtain ⟨k, hk, rfl, rfl, hr, hb, hB⟩ := hrel
      by_cases hlt : k < 4
      · have f1 := hb.fr (1 + k)
        have c1 := hb.at_ (i := k) (by omega)
        have i1 : (0 : Int) ≤ (k : Int) := by omega
        have i2 : (k : Int) < 9 := by omega
        have a1 := Lib.hid (ofF_succ m k)
        have a2 := Lib.hid (show m / 65536 ^ k / 65536 = m / 65536 ^ (k + 1) by rw [Nat.div_div_eq_div_mul, Nat.pow_succ])
        have a3 := Lib.hid (show m / 65536 ^ k % 65536 = dig m k from rfl)
        have l1 : m / 65536 ^ k ≤ m := Nat.div_le_self _ _
        generalize m / 65536 ^ k = t at *
        go_wp2_with fail
        go_roundw
        case rel =>
          refine ⟨k + 1, by omega, by go_num, by rw [← a2.out]; go_num, hr.far (by simp) _, ?_, hB.setCell (p := ⟨w.heap.size + 1, 1 + k, none⟩) (by simp) _⟩
          have := (hb.set_ (i := k) (by omega) (dig m k)).congr (fun j _ => a1.out j)
          rw [← a3.out] at this
          simpa using this
        case measure => simp [intOf]; omega
      · obtain rfl : k = 4 := by omega
        have hb' := hb.congr (g := dig m) (fun j hj => by
          unfold ofF
          by_cases h : j < 4
          · rw [if_pos h]
          · rw [if_neg h, dig_big' (i := 4) (by omega) (by omega)])
        obtain ⟨k0, k1, k2, k3, k4, k5, k6, k7, k8, k9⟩ := hb'.cells
        obtain ⟨g0, g1, g2, g3, g4, g5, g6, g7, g8, g9⟩ := hr.frs
        obtain ⟨h0, h1, h2, h3, h4, h5, h6, h7, h8, h9⟩ := hr.cells
        go_wp2_with fail
        refine bodyPost_ret (v := .agg #[.bool false, .int .u64 (dig (m) 0), .int .u64 (dig (m) 1), .int .u64 (dig (m) 2), .int .u64 (dig (m) 3), .int .u64 (dig (m) 4), .int .u64 (dig (m) 5), .int .u64 (dig (m) 6), .int .u64 (dig (m) 7), .int .u64 (dig (m) 8)]) (by simp [results, Try.results141, go_sem, h0, h1, h2, h3, h4, h5, h6, h7, h8, h9]) rfl ⟨rfl, ?_⟩
        repeat (refine Below.setCell ?_ (by simp) _)
        exact hB

end Go.Proofs.Ytlhoffhagfhbcaa.Num
