/-
  word.Put32, word.Put64: bytes onto a slice.
-/
import Derived.Test.YtblnfkhaicjeaaaBlk
import Derived.Test.YtblnfkhaicjeaaaFlat
import Derived.IntWalk
import Derived.Test.YtblnfkhaicjeaaaProg
namespace Go.Proofs.Ytblnfkhaicjeaaa.Byt
open Go.RowKit
set_option linter.all false

def be4 (z : Int) : List Int := [z / 16777216 % 256, z / 65536 % 256, z / 256 % 256, z % 256]
def be8 (z : Int) : List Int := be4 (z / 4294967296) ++ be4 z
def ub (l : List Int) : List Value := l.map (Value.int .u8)
theorem ub_len (l : List Int) : (ub l).length = l.length := by simp [ub]
theorem ub_app (l m : List Int) : ub (l ++ m) = ub l ++ ub m := by simp [ub]
theorem ub_one (l : List Int) : ∀ u ∈ ub l, u.oneCell' = true := one_map .u8 l
/-- Bytes in a slice. -/
def Out (w : World) (v : Value) (xs : List Int) : Prop := On w 5 1 v xs.length (ub xs)
theorem Out.nil (w : World) : Out w (.slice none 0 0) [] := On.nil _ _ _
theorem Out.below' {w w' : World} {v : Value} {xs : List Int} (h : Out w v xs) (hb : Below w.heap.size w w') : Out w' v xs := On.below h hb (On.lt h)
abbrev OwnB (v : Value) : Nat → Prop := fun k => v.ownBlock = some k
/-- What a function that puts bytes hands back. -/
def Puts (w : World) (v : Value) (xs : List Int) (e : Ending) (w' : World) : Prop := ∃ v', e = .returned v' ∧ Out w' v' xs ∧ Touch (OwnB v) w w' ∧ (∀ g, v'.ownBlock = some g → v.ownBlock = some g ∨ w.heap.size ≤ g)
theorem be4_wrap (z : Int) : be4 (IntKind.u32.wrap z) = be4 z := by
  simp only [be4, IntKind.wrap, IntKind.bits, IntKind.signed]
  simp
  omega
theorem be8_wrap (z : Int) : be8 (IntKind.u64.wrap z) = be8 z := by
  simp only [be8, be4, IntKind.wrap, IntKind.bits, IntKind.signed]
  simp
  omega
theorem info8 : (Try.prog.info? 5).map (fun i => (i.zero, i.size, i.bytes)) = some (some (.int .u8 0), 1, 1) := by kernel_rfl

set_option maxRecDepth 100000 in
set_option maxHeartbeats 2000000 in
theorem put32_any (w : World) (v : Value) (xs : List Int) (z : Int) (h : Out w v xs) (hl : xs.length ≤ 1000000) (h0 : 0 ≤ z) (h1 : z < 4294967296) :
    Calls Try.prog 57 #[v, .int .u32 z] w (Puts w v (xs ++ be4 z)) := by
  obtain ⟨i0, hi, hz0, hz1, hz2⟩ := info_parts info8
  have w1 : IntKind.u8.wrap (z / 16777216) = z / 16777216 % 256 := by simp [IntKind.wrap, IntKind.bits, IntKind.signed]
  have w2 : IntKind.u8.wrap (z / 65536) = z / 65536 % 256 := by simp [IntKind.wrap, IntKind.bits, IntKind.signed]
  have w3 : IntKind.u8.wrap (z / 256) = z / 256 % 256 := by simp [IntKind.wrap, IntKind.bits, IntKind.signed]
  have w4 : IntKind.u8.wrap z = z % 256 := by simp [IntKind.wrap, IntKind.bits, IntKind.signed]
  have fin : ∀ (u v' : Value) (w' : World), u.ownBlock = v.ownBlock → On w' 5 1 v' (xs.length + 4) (ub xs ++ ub (be4 z)) → (w.alloc (.cells #[.int .u8 (z / 16777216 % 256), .int .u8 (z / 65536 % 256), .int .u8 (z / 256 % 256), .int .u8 (z % 256)] 5)).grownBy w' u.ownBlock → (v'.ownBlock = u.ownBlock ∨ v'.ownBlock = some (w.alloc (.cells #[.int .u8 (z / 16777216 % 256), .int .u8 (z / 65536 % 256), .int .u8 (z / 256 % 256), .int .u8 (z % 256)] 5)).heap.size) →
      Puts w v (xs ++ be4 z) (.returned v') w' := by
    intro u v' w' hu hon hg how
    refine ⟨v', rfl, ?_, ?_, ?_⟩
    · unfold Out; rw [List.length_append, ub_app]; exact hon
    · exact ((Touch.refl _ _).alloc _).grown hg (fun k hk => .inl (by show v.ownBlock = some k; rw [← hu]; exact hk))
    · intro g hgv
      rcases how with e | e
      · exact .inl (by rw [← hu, ← e]; exact hgv)
      · rw [e] at hgv; cases hgv; exact .inr (by simp)
  have HFin := Lib.hid fin
  clear fin
  rcases h.form with ⟨rfl, hn, hx⟩ | ⟨g, cap, rfl, hnc, hcm, how, hgl, hcell, hfr⟩
  · have hxs : xs = [] := List.eq_nil_of_length_eq_zero hn
    subst hxs
    clear hn hx
    have X := Lib.hid (show Out (w.alloc (.cells #[.int .u8 (z / 16777216 % 256), .int .u8 (z / 65536 % 256), .int .u8 (z / 256 % 256), .int .u8 (z % 256)] 5)) (.slice none 0 0) [] from Out.nil _)
    clear h
    go_enter Try.func57, Try.ntmps57
    go_wp2_with (at_builtin; refine wpList_append_on _ (by rfl) _ _ 40 (by rfl) 5 i0 _ 1 1 Try.underlying40 hi hz0 hz1 hz2 (by rfl) (by omega) (.slice none 0 0) 0 [] (by rfl) X.out (some ⟨w.heap.size, 0, none⟩) 4 4 (ub (be4 z)) (by rfl) (by rfl) (src_new w 5 4 (ub (be4 z))) (ub_one _) (by simp only [maxLen]; omega) (by omega) ?_; intro v' w' hon hg hv')
    go_ret
    exact HFin.out _ _ _ rfl hon hg hv'
  · have hcut := On.cut h (k := xs.length) (Nat.le_refl _)
    have e1 : (ub xs).take (xs.length * 1) = ub xs := by rw [Nat.mul_one, ← ub_len xs, List.take_length]
    rw [e1] at hcut
    have X := hcut.alloc (.cells #[.int .u8 (z / 16777216 % 256), .int .u8 (z / 65536 % 256), .int .u8 (z / 256 % 256), .int .u8 (z % 256)] 5)
    have l1 : (xs.length : Int) ≤ (cap : Int) := by omega
    have l0 : (0 : Int) ≤ (xs.length : Int) := by omega
    obtain ⟨n, hn⟩ : ∃ n, n = xs.length := ⟨_, rfl⟩
    have HL := Lib.hid hn
    rw [← hn] at l1 l0 X
    have hcm' : cap ≤ 9223372036854775807 := by simp only [maxLen] at hcm; omega
    have hn2 : n ≤ 1000000 := by omega
    rw [← hn]
    have X3 := Lib.hid X
    clear h hcut e1 hcell hfr hnc hl hn X
    go_enter Try.func57, Try.ntmps57
    go_wp2_with (at_builtin; refine wpList_append_on _ (by rfl) _ _ 40 (by rfl) 5 i0 _ 1 1 Try.underlying40 hi hz0 hz1 hz2 (by rfl) (by omega) (.slice (some ⟨g, 0, none⟩) n n) n (ub xs) (by rfl) X3.out (some ⟨w.heap.size, 0, none⟩) 4 4 (ub (be4 z)) (by rfl) (by rfl) (src_new w 5 4 (ub (be4 z))) (ub_one _) (by simp only [maxLen]; omega) (by omega) ?_; intro v' w' hon hg hv')
    go_ret
    have HF := HFin.out (.slice (some ⟨g, 0, none⟩) n n) _ _ (by rfl) (by rw [← HL.out]; exact hon) hg hv'
    rw [← HL.out] at HF
    exact HF

set_option maxRecDepth 100000 in
set_option maxHeartbeats 2000000 in
theorem put64_any (w : World) (v : Value) (xs : List Int) (z : Int) (h : Out w v xs) (hl : xs.length ≤ 900000) (h0 : 0 ≤ z) (h1 : z < 18446744073709551616) :
    Calls Try.prog 58 #[v, .int .u64 z] w (Puts w v (xs ++ be8 z)) := by
  have w1 : IntKind.u32.wrap (z / 4294967296) = z / 4294967296 := IntWalk.u32_in _ (by omega)
  have p1 := Lib.hid (put32_any w v xs (z / 4294967296) h (by omega) (by omega) (by omega))
  have hw2 : 0 ≤ IntKind.u32.wrap z ∧ IntKind.u32.wrap z < 4294967296 := by simp [IntKind.wrap, IntKind.bits, IntKind.signed]; omega
  have HE := Lib.hid (be4_wrap z)
  have HL := Lib.hid hl
  obtain ⟨y, hy⟩ : ∃ y, y = IntKind.u32.wrap z := ⟨_, rfl⟩
  have hy' := hy.symm
  rw [hy'] at HE hw2
  obtain ⟨x, hx⟩ : ∃ x, x = z / 4294967296 := ⟨_, rfl⟩
  have HX := Lib.hid hx
  have hx' := hx.symm
  rw [hx'] at p1 w1
  clear h hl hx hy
  go_enter Try.func58, Try.ntmps58
  go_wp2_with fail
  refine p1.out.mono ?_
  rintro e w1' ⟨v1, rfl, o1, t1, g1⟩
  have p2 := Lib.hid (put32_any w1' v1 (xs ++ be4 x) y o1 (by have := HL.out; rw [List.length_append]; simp [be4]; omega) hw2.1 hw2.2)
  clear p1 o1
  go_wp2_with fail
  refine p2.out.mono ?_
  rintro e w2' ⟨v2, rfl, o2, t2, g2⟩
  go_wp2_with fail
  go_ret
  have hs := t1.size
  refine ⟨v2, rfl, ?_, t1.trans t2 (fun k hk => g1 k hk), fun g hg => ?_⟩
  · have e : xs ++ be8 z = xs ++ be4 x ++ be4 y := by rw [HE.out, HX.out, List.append_assoc]; rfl
    rw [e]
    exact o2
  · rcases g2 g hg with e | e
    · exact g1 g e
    · exact .inr (by omega)
end Go.Proofs.Ytblnfkhaicjeaaa.Byt
