/-
  net: Send, Double, Move and Drop of any numbers. Condition: counts below a million.
-/
import Derived.Test.YtmceaffoffemlaaNetJ
namespace Go.Proofs.Ytmceaffoffemlaa.Netw
open Go.RowKit
set_option linter.all false

/-- A slice of bytes that reads, apart from what the net owns. -/
def Rd (W : World) (O : Nat → Prop) (a : Option Addr) (l : Nat) (bs : List Int) : Prop :=
  bs.length = l ∧ (0 < l → ∃ b off, a = some ⟨b, off, none⟩ ∧ b < W.heap.size ∧ ¬ O b ∧ ∀ j, j < l → W.cell? ⟨b, off + j, none⟩ = some (.int .u8 (nth bs j)))
theorem row_src {W : World} {a : Option Addr} {l : Nat} {bs : List Int} (h : Row .u8 W a l bs) : Src W a l (bs.map (.int .u8)) := by
  obtain ⟨h1, h2⟩ := h
  by_cases hl : 0 < l
  · obtain ⟨b, off, rfl, hb, hc⟩ := h2 hl
    refine .inr ⟨_, rfl, fun j u hu => ?_⟩
    have hadd : (⟨b, off, none⟩ : Addr).add j = ⟨b, off + j, none⟩ := by unfold Addr.add; split <;> simp_all
    obtain ⟨hj, hu⟩ := List.getElem?_eq_some_iff.1 hu
    have hj' : j < bs.length := by simpa using hj
    rw [hadd, hc j (by omega), ← hu]
    simp [nth, List.getD, hj']
  · obtain rfl : bs = [] := List.eq_nil_of_length_eq_zero (by omega)
    exact .inl ⟨by omega, rfl⟩
theorem Rd.row {W : World} {O : Nat → Prop} {a : Option Addr} {l : Nat} {bs : List Int} (h : Rd W O a l bs) : Row .u8 W a l bs :=
  ⟨h.1, fun hp => by obtain ⟨b, off, e, hb, _, hc⟩ := h.2 hp; exact ⟨b, off, e, hb, hc⟩⟩
theorem Rd.go {W W' : World} {O O' : Nat → Prop} {a : Option Addr} {l : Nat} {bs : List Int} (h : Rd W O a l bs) (hT : Touch O W W') (hO : ∀ g, O' g → O g ∨ W.heap.size ≤ g) : Rd W' O' a l bs :=
  ⟨h.1, fun hp => by
    obtain ⟨b, off, e, hb, hn, hc⟩ := h.2 hp
    exact ⟨b, off, e, Nat.lt_of_lt_of_le hb hT.size, fun h' => (hO b h').elim hn (fun h2 => by omega), fun j hj => (hT.cell (p := ⟨b, off + j, none⟩) hb hn).trans (hc j hj)⟩⟩
theorem Rd.below {W W' : World} {O : Nat → Prop} {a : Option Addr} {l : Nat} {bs : List Int} (h : Rd W O a l bs) (hb : Below W.heap.size W W') : Rd W' O a l bs := h.go (Touch.of_below hb) (fun _ e => .inl e)
theorem one_u8 (bs : List Int) : ∀ u ∈ bs.map (Value.int .u8), u.oneCell' = true := one_map .u8 bs

def SendTo (W : World) (B n : Nat) (s : NS) (r : MN × Int) (e : Ending) (W' : World) : Prop := e = .returned (.int .i64 r.2) ∧ Went W B n s r.1 W'

set_option maxRecDepth 100000 in
set_option maxHeartbeats 1000000 in
theorem send_long (w : World) (n d b : Nat) (s : NS) (a : Option Addr) (l c : Nat) (h : NAt w n s) (hd : d < 2) (hb : b < 2) (hl : (1400 : Int) < (l : Int)) (hq : 0 ≤ s.long ∧ s.long ≤ 1000000) :
    Calls Try.prog 12 #[.pointer (some ⟨n, 0, none⟩), .int .i64 d, .int .i64 b, .slice a l c] w fun e w' => e = .returned (.int .i64 2) ∧ w.setCell ⟨n, 5, none⟩ (.int .i64 (s.long + 1)) = w' := by
  have p := Lib.hid (way_in w n d b hd hb)
  have c5 : w.cell? ⟨n, 5, none⟩ = some (.int .i64 s.long) := (h.box.cell 5).trans rfl
  have f5 := h.box.frozen 5
  obtain ⟨q1, q2⟩ := hq
  clear h
  go_enter Try.func12, Try.ntmps12
  go_wp2_with fail
  refine p.out.mono ?_
  rintro e w' ⟨rfl, rfl⟩
  go_wp2_with fail
  go_ret
  exact ⟨rfl, rfl⟩

set_option maxRecDepth 100000 in
set_option maxHeartbeats 1000000 in
theorem send_full (w : World) (n d b : Nat) (s : NS) (a : Option Addr) (l c : Nat) (h : NAt w n s) (hd : d < 2) (hb : b < 2) (hl : ¬ (1400 : Int) < (l : Int)) (hr : (128 : Int) ≤ ((s.es (2 * d + b)).length : Int)) (hq : 0 ≤ s.full ∧ s.full ≤ 1000000) :
    Calls Try.prog 12 #[.pointer (some ⟨n, 0, none⟩), .int .i64 d, .int .i64 b, .slice a l c] w fun e w' => e = .returned (.int .i64 2) ∧ w.setCell ⟨n, 4, none⟩ (.int .i64 (s.full + 1)) = w' := by
  have p := Lib.hid (way_in w n d b hd hb)
  have c4 : w.cell? ⟨n, 4, none⟩ = some (.int .i64 s.full) := (h.box.cell 4).trans rfl
  have f4 := h.box.frozen 4
  obtain ⟨q1, q2⟩ := hq
  have hk : 2 * d + b < 4 := by omega
  generalize 2 * d + b = k at *
  obtain ⟨a2, c2, _, hc⟩ := h.slice hk
  generalize (s.es k).length = len at *
  clear h
  go_enter Try.func12, Try.ntmps12
  go_wp2_with fail
  refine p.out.mono ?_
  rintro e w' ⟨rfl, rfl⟩
  go_wp2_with fail
  go_ret
  exact ⟨rfl, rfl⟩

theorem send_any (W : World) (B n : Nat) (s : NS) (m : MN) (cm : Int) (d b : Int) (a : Option Addr) (l c : Nat) (bs : List Int) (h : PN W B n s m) (hm : MOk m cm) (hcm : cm ≤ 1000000) (hB : B ≤ W.heap.size) (hbs : bs.length = l)
    (hsrc : ∀ W', Below W.heap.size W W' → Src W' a l (bs.map (.int .u8))) :
    Calls Try.prog 12 #[.pointer (some ⟨n, 0, none⟩), .int .i64 d, .int .i64 b, .slice a l c] W (SendTo W B n s (m.send d b bs)) := by
  unfold MN.send
  by_cases hw : isWay d b
  · rw [if_pos hw]
    obtain ⟨x, y, rfl, rfl, hx, hy, hk⟩ := isWay_nat hw
    have hk4 := wayNo_lt hw
    by_cases h1 : 1400 < bs.length
    · rw [if_pos h1]
      refine (send_long W n x y s a l c h.net hx hy (by omega) (by have := hm.long; rw [h.long]; omega)).mono ?_
      rintro e w' ⟨rfl, rfl⟩
      exact ⟨rfl, Went.count h 5 (s.long + 1) { s with long := s.long + 1 } _ rfl rfl rfl rfl h.full (by show s.long + 1 = m.long + 1; rw [h.long]) h.moved⟩
    · rw [if_neg h1]
      by_cases h2 : 128 ≤ (m.L (wayNo x y)).length
      · rw [if_pos h2]
        refine (send_full W n x y s a l c h.net hx hy (by omega) (by rw [← hk, h.len _ hk4]; omega) (by have := hm.full; rw [h.full]; omega)).mono ?_
        rintro e w' ⟨rfl, rfl⟩
        exact ⟨rfl, Went.count h 4 (s.full + 1) { s with full := s.full + 1 } _ rfl rfl rfl rfl (by show s.full + 1 = m.full + 1; rw [h.full]) h.long h.moved⟩
      · rw [if_neg h2]
        refine (send_ok W n x y s a l c (bs.map (.int .u8)) h.net hx hy (by omega) (by simpa using hbs) (one_u8 bs) hsrc (by rw [← hk, h.len _ hk4]; omega)).mono ?_
        rintro e w' ⟨rfl, hS⟩
        rw [← hk, ← hbs] at hS
        exact ⟨rfl, Went.sent h hk4 bs hB hS⟩
  · rw [if_neg hw]
    refine (send_out W n d b a l c (not_way hw)).mono ?_
    rintro e w' ⟨rfl, rfl⟩
    exact ⟨rfl, Went.self h (Below.refl _ _)⟩

/-! ### at, out of range -/
theorem at_out (w : World) (n : Nat) (d b i : Int) (h : d < 0 ∨ (¬ d < 0 ∧ 2 ≤ d) ∨ (¬ d < 0 ∧ ¬ 2 ≤ d ∧ b < 0) ∨ (¬ d < 0 ∧ ¬ 2 ≤ d ∧ ¬ b < 0 ∧ 2 ≤ b)) :
    Calls Try.prog 48 #[.pointer (some ⟨n, 0, none⟩), .int .i64 d, .int .i64 b, .int .i64 i] w fun e w' => e = .returned (.tuple #[.pointer none, .int .i64 0, .int .i64 62]) ∧ w = w' := by
  have p := Lib.hid (way_out w n d b h)
  clear h
  go_enter Try.func48, Try.ntmps48
  go_wp2_with fail
  refine p.out.mono ?_
  rintro e w' ⟨rfl, rfl⟩
  go_wp2_with fail
  go_ret3
  exact ⟨rfl, rfl⟩
/-- at refuses with code q. -/
def AtNo (w : World) (n : Nat) (d b i : Int) (q : Int) : Prop := Calls Try.prog 48 #[.pointer (some ⟨n, 0, none⟩), .int .i64 d, .int .i64 b, .int .i64 i] w fun e w' => e = .returned (.tuple #[.pointer none, .int .i64 0, .int .i64 q]) ∧ w = w'
theorem move_no (w : World) (n : Nat) (d b i q : Int) (h : AtNo w n d b i q) (hq : (q == 0) = false) :
    Calls Try.prog 13 #[.pointer (some ⟨n, 0, none⟩), .int .i64 d, .int .i64 b, .int .i64 i] w fun e w' => e = .returned (.tuple #[.slice none 0 0, .int .i64 q]) ∧ w = w' := by
  have p := Lib.hid h
  clear h
  have hq' : (q != 0) = true := by simp [bne, hq]
  go_enter Try.func13, Try.ntmps13
  go_wp2_with fail
  refine (show Calls _ _ _ _ _ from p.out).mono ?_
  rintro e w' ⟨rfl, rfl⟩
  go_wp2_with fail
  go_ret2
  exact ⟨rfl, rfl⟩
theorem drop_no (w : World) (n : Nat) (d b i q : Int) (h : AtNo w n d b i q) (hq : (q == 0) = false) :
    Calls Try.prog 43 #[.pointer (some ⟨n, 0, none⟩), .int .i64 d, .int .i64 b, .int .i64 i] w fun e w' => e = .returned (.int .i64 q) ∧ w = w' := by
  have p := Lib.hid h
  clear h
  have hq' : (q != 0) = true := by simp [bne, hq]
  go_enter Try.func43, Try.ntmps43
  go_wp2_with fail
  refine (show Calls _ _ _ _ _ from p.out).mono ?_
  rintro e w' ⟨rfl, rfl⟩
  go_wp2_with fail
  go_ret
  exact ⟨rfl, rfl⟩
theorem double_no (w : World) (n : Nat) (d b i q : Int) (h : AtNo w n d b i q) (hq : (q == 0) = false) :
    Calls Try.prog 44 #[.pointer (some ⟨n, 0, none⟩), .int .i64 d, .int .i64 b, .int .i64 i] w fun e w' => e = .returned (.int .i64 q) ∧ w = w' := by
  have p := Lib.hid h
  clear h
  have hq' : (q != 0) = true := by simp [bne, hq]
  go_enter Try.func44, Try.ntmps44
  go_wp2_with fail
  refine (show Calls _ _ _ _ _ from p.out).mono ?_
  rintro e w' ⟨rfl, rfl⟩
  go_wp2_with fail
  go_ret
  exact ⟨rfl, rfl⟩
theorem spoil_no (w : World) (n : Nat) (d b i y q : Int) (h : AtNo w n d b (-1) q) (hq : (q == 0) = false) :
    Calls Try.prog 45 #[.pointer (some ⟨n, 0, none⟩), .int .i64 d, .int .i64 b, .int .i64 i, .int .u8 y] w fun e w' => e = .returned (.int .i64 q) ∧ w = w' := by
  have p := Lib.hid h
  clear h
  have hq' : (q != 0) = true := by simp [bne, hq]
  go_enter Try.func45, Try.ntmps45
  go_wp2_with fail
  refine (show Calls _ _ _ _ _ from p.out).mono ?_
  rintro e w' ⟨rfl, rfl⟩
  go_wp2_with fail
  go_ret
  exact ⟨rfl, rfl⟩
theorem at_no {W : World} {n : Nat} {s : NS} {d b : Int} (i : Int) (h : NAt W n s) (hw : isWay d b) (he : s.es (wayNo d b) = []) : AtNo W n d b i 91 := by
  obtain ⟨x, y, rfl, rfl, hx, hy, hk⟩ := isWay_nat hw
  obtain ⟨a, c, _, hc⟩ := h.slice (wayNo_lt hw)
  rw [he, hk] at hc
  exact at_none W n x y c i a hx hy hc
theorem PN.empty {W : World} {B n : Nat} {s : NS} {m : MN} (h : PN W B n s m) {d b i : Int} (hw : isWay d b) (hx : (m.L (wayNo d b))[place i (m.L (wayNo d b))]? = none) : s.es (wayNo d b) = [] := by
  by_cases he : m.L (wayNo d b) = []
  · have := h.len _ (wayNo_lt hw)
    rw [he] at this
    exact List.eq_nil_of_length_eq_zero this
  · have := (place_lt i he).1
    rw [List.getElem?_eq_getElem this] at hx
    cases hx

def MoveTo (W : World) (B n : Nat) (s : NS) (r : MN × List Int × Int) (e : Ending) (W' : World) : Prop :=
  ∃ a l c, e = .returned (.tuple #[.slice a l c, .int .i64 r.2.2]) ∧ Row .u8 W' a l r.2.1 ∧ Went W B n s r.1 W'
theorem on_row {w : World} {e : TypeId} {a : Option Addr} {k : IntKind} {n c : Nat} {zs : List Int} (h : On w e 1 (.slice a n c) n (zs.map (.int k))) : Row k w a n zs := by
  have hl := h.1
  refine ⟨by simpa using hl, fun hp => ?_⟩
  rcases h.form with ⟨_, h0, _⟩ | ⟨g, cap, hv, _, _, _, hlt, hc, _⟩
  · omega
  · cases hv
    refine ⟨g, 0, rfl, hlt, fun j hj => ?_⟩
    rw [Nat.zero_add]
    refine hc j _ ?_
    have hj' : j < zs.length := by simp at hl; omega
    simp [nth, List.getD, hj']
theorem move_any (W : World) (B n : Nat) (s : NS) (m : MN) (cm : Int) (d b i : Int) (h : PN W B n s m) (hm : MOk m cm) (hcm : cm ≤ 1000000) (hB : B ≤ W.heap.size) (hi : -9223372036854775808 ≤ i ∧ i ≤ 9223372036854775807) :
    Calls Try.prog 13 #[.pointer (some ⟨n, 0, none⟩), .int .i64 d, .int .i64 b, .int .i64 i] W (MoveTo W B n s (m.move d b i)) := by
  unfold MN.move
  by_cases hw : isWay d b
  · rw [if_pos hw]
    have hk4 := wayNo_lt hw
    cases hx : (m.L (wayNo d b))[place i (m.L (wayNo d b))]? with
    | none =>
      refine (move_no W n d b i 91 (at_no i h.net hw (h.empty hw hx)) (by decide)).mono ?_
      rintro e w' ⟨rfl, rfl⟩
      exact ⟨_, _, _, rfl, ⟨rfl, fun h => absurd h (by omega)⟩, Went.self h (Below.refl _ _)⟩
    | some x =>
      have hne : m.L (wayNo d b) ≠ [] := fun e => by rw [e] at hx; simp at hx
      have hpl := (place_lt i hne).2
      obtain ⟨e, he, he2, ho⟩ := h.got hk4 hx
      have hone := h.one hk4
      have hlen := hm.len _ hk4
      have hll := h.len _ hk4
      obtain ⟨x1, y1, rfl, rfl, hx1, hy1, hk⟩ := isWay_nat hw
      obtain ⟨a, c, hv, _⟩ := ho.slice
      rw [hk] at hk4 hx hpl he hone hlen hll ⊢
      refine (move_ok W n x1 y1 (place i (m.L (2 * x1 + y1))) i s e h.net hx1 hy1 hi he (by rw [hll]; exact hpl) (by omega) hone (by have := hm.moved; rw [h.moved]; omega)).mono ?_
      rintro e' w' ⟨rfl, hS⟩
      rw [hv]
      refine ⟨a, x.1.length, c, rfl, ?_, ?_⟩
      · have := h.out hk4 hS he hx
        rw [hv] at this
        exact on_row this
      · exact Went.moved h hk4 hB hS _ rfl rfl rfl (by show m.moved + 1 = s.moved + 1; rw [h.moved])
  · rw [if_neg hw]
    refine (move_no W n d b i 62 (at_out W n d b i (not_way hw)) (by decide)).mono ?_
    rintro e w' ⟨rfl, rfl⟩
    exact ⟨_, _, _, rfl, ⟨rfl, fun h => absurd h (by omega)⟩, Went.self h (Below.refl _ _)⟩
theorem drop_any (W : World) (B n : Nat) (s : NS) (m : MN) (cm : Int) (d b i : Int) (h : PN W B n s m) (hm : MOk m cm) (hcm : cm ≤ 1000000) (hB : B ≤ W.heap.size) (hi : -9223372036854775808 ≤ i ∧ i ≤ 9223372036854775807) :
    Calls Try.prog 43 #[.pointer (some ⟨n, 0, none⟩), .int .i64 d, .int .i64 b, .int .i64 i] W (SendTo W B n s (m.drop d b i)) := by
  unfold MN.drop
  by_cases hw : isWay d b
  · rw [if_pos hw]
    have hk4 := wayNo_lt hw
    cases hx : (m.L (wayNo d b))[place i (m.L (wayNo d b))]? with
    | none =>
      refine (drop_no W n d b i 91 (at_no i h.net hw (h.empty hw hx)) (by decide)).mono ?_
      rintro e w' ⟨rfl, rfl⟩
      exact ⟨rfl, Went.self h (Below.refl _ _)⟩
    | some x =>
      have hne : m.L (wayNo d b) ≠ [] := fun e => by rw [e] at hx; simp at hx
      have hpl := (place_lt i hne).2
      obtain ⟨e, he, he2, ho⟩ := h.got hk4 hx
      have hone := h.one hk4
      have hlen := hm.len _ hk4
      have hll := h.len _ hk4
      obtain ⟨x1, y1, rfl, rfl, hx1, hy1, hk⟩ := isWay_nat hw
      rw [hk] at hk4 hx hpl he hone hlen hll ⊢
      refine (drop_ok W n x1 y1 (place i (m.L (2 * x1 + y1))) i s e h.net hx1 hy1 hi he (by rw [hll]; exact hpl) (by omega) hone).mono ?_
      rintro e' w' ⟨rfl, hS⟩
      exact ⟨rfl, Went.moved h hk4 hB hS _ rfl rfl rfl (by show m.moved = s.moved; rw [h.moved])⟩
  · rw [if_neg hw]
    refine (drop_no W n d b i 62 (at_out W n d b i (not_way hw)) (by decide)).mono ?_
    rintro e w' ⟨rfl, rfl⟩
    exact ⟨rfl, Went.self h (Below.refl _ _)⟩

set_option maxRecDepth 100000 in
set_option maxHeartbeats 2000000 in
theorem double_yes (w : World) (n d b m : Nat) (i : Int) (s : NS) (e : E) (B : Nat) (r : MN × Int) (a2 : Option Addr) (l c2 : Nat) (h : NAt w n s) (hd : d < 2) (hb : b < 2) (hi : -9223372036854775808 ≤ i ∧ i ≤ 9223372036854775807)
    (hm : (s.es (2 * d + b))[m]? = some e) (him : i % ((s.es (2 * d + b)).length : Int) = m) (hlen : (s.es (2 * d + b)).length ≤ 128) (he : e.1 = .slice a2 l c2)
    (hS : Calls Try.prog 12 #[.pointer (some ⟨n, 0, none⟩), .int .i64 d, .int .i64 b, .slice a2 l c2] w (SendTo w B n s r)) :
    Calls Try.prog 44 #[.pointer (some ⟨n, 0, none⟩), .int .i64 d, .int .i64 b, .int .i64 i] w (SendTo w B n s r) := by
  have hk4 : 2 * d + b < 4 := by omega
  obtain ⟨g, c, e1, hlt, hlc, m0, m1⟩ := mail_cell h hk4 hm
  have hc := h.cell hk4
  rw [e1] at hc
  have p := at_some w n d b _ c i _ hd hb (by omega) (by omega) hi hc
  rw [him] at p
  rw [he] at m0
  have ps := Lib.hid hS
  have p := Lib.hid p
  have hi1 : (0 : Int) ≤ (m : Int) := by omega
  have hi2 : (m : Int) < ((s.es (2 * d + b)).length : Int) := by omega
  clear m1 h hS
  generalize (s.es (2 * d + b)).length = len at *
  go_enter Try.func44, Try.ntmps44
  go_wp2_with fail
  refine p.out.mono ?_
  rintro e w' ⟨rfl, rfl⟩
  go_wp2_with fail
  refine ps.out.mono ?_
  rintro e w' ⟨rfl, hR⟩
  go_wp2_with fail
  go_ret
  exact ⟨rfl, hR⟩
theorem double_any (W : World) (B n : Nat) (s : NS) (m : MN) (cm : Int) (d b i : Int) (h : PN W B n s m) (hm : MOk m cm) (hcm : cm ≤ 1000000) (hB : B ≤ W.heap.size) (hi : -9223372036854775808 ≤ i ∧ i ≤ 9223372036854775807) :
    Calls Try.prog 44 #[.pointer (some ⟨n, 0, none⟩), .int .i64 d, .int .i64 b, .int .i64 i] W (SendTo W B n s (m.double d b i)) := by
  unfold MN.double
  by_cases hw : isWay d b
  · rw [if_pos hw]
    have hk4 := wayNo_lt hw
    cases hx : (m.L (wayNo d b))[place i (m.L (wayNo d b))]? with
    | none =>
      refine (double_no W n d b i 91 (at_no i h.net hw (h.empty hw hx)) (by decide)).mono ?_
      rintro e w' ⟨rfl, rfl⟩
      exact ⟨rfl, Went.self h (Below.refl _ _)⟩
    | some x =>
      have hne : m.L (wayNo d b) ≠ [] := fun e => by rw [e] at hx; simp at hx
      have hpl := (place_lt i hne).2
      obtain ⟨e, he, he2, ho⟩ := h.got hk4 hx
      have hlen := hm.len _ hk4
      have hll := h.len _ hk4
      obtain ⟨a2, c2, hv, _⟩ := ho.slice
      rw [hv] at ho
      have hsend := send_any W B n s m cm d b a2 x.1.length c2 x.1 h hm hcm hB rfl (fun W' hb => (ho.below hb (fun g hg => ho.lt g hg)).src)
      obtain ⟨x1, y1, rfl, rfl, hx1, hy1, hk⟩ := isWay_nat hw
      rw [hk] at hk4 hx hpl he hlen hll
      exact double_yes W n x1 y1 (place i (m.L (2 * x1 + y1))) i s e B _ a2 x.1.length c2 h.net hx1 hy1 hi he (by rw [hll]; exact hpl) (by omega) hv hsend
  · rw [if_neg hw]
    refine (double_no W n d b i 62 (at_out W n d b i (not_way hw)) (by decide)).mono ?_
    rintro e w' ⟨rfl, rfl⟩
    exact ⟨rfl, Went.self h (Below.refl _ _)⟩
end Go.Proofs.Ytmceaffoffemlaa.Netw
