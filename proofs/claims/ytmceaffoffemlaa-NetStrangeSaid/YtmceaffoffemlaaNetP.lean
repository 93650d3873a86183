/-
  The document's net: at, Send, Move, Drop, Double. Conditions: the lists lie in memory.
-/
import Derived.Test.YtmceaffoffemlaaNetO
namespace Go.Proofs.Ytmceaffoffemlaa.Netw
open Go.RowKit
set_option linter.all false

/-- Which way: written out. -/
def W4 (d b : Int) (k : Nat) (q : Int) : Prop := (d = 0 ∧ b = 0 ∧ k = 0 ∧ q = 0) ∨ (d = 0 ∧ b = 1 ∧ k = 1 ∧ q = 1) ∨ (d = 1 ∧ b = 0 ∧ k = 2 ∧ q = 2) ∨ (d = 1 ∧ b = 1 ∧ k = 3 ∧ q = 3)
theorem w4 {d b : Int} (h : isWay d b) : ∃ k q, wayNo d b = k ∧ W4 d b k q := by
  unfold isWay at h
  refine ⟨_, (wayNo d b : Int), rfl, ?_⟩
  unfold W4 wayNo
  omega
theorem rway4 (w : World) (d b : Int) (k : Nat) (q : Int) (h : W4 d b k q) :
    Calls Try.prog 98 #[.int .i64 d, .int .i64 b] w fun e w' => e = .returned (.int .i64 q) ∧ w = w' := by
  rcases h with ⟨rfl, rfl, rfl, rfl⟩ | ⟨rfl, rfl, rfl, rfl⟩ | ⟨rfl, rfl, rfl, rfl⟩ | ⟨rfl, rfl, rfl, rfl⟩
  all_goals
    go_enter Try.func98, Try.ntmps98
    go_wp2_with fail
    go_ret
    exact ⟨rfl, rfl⟩
section
variable (a : Nat → Option Addr) (l c : Nat → Nat) (fu lo mo : Int)
/-- A net of the document's, as a value. -/
def dnv : Value := .agg (nc (.slice (a 0) (l 0) (c 0)) (.slice (a 1) (l 1) (c 1)) (.slice (a 2) (l 2) (c 2)) (.slice (a 3) (l 3) (c 3)) fu lo mo)
end
def DAt (e : Ending) (w w' : World) (k i q : Int) : Prop := e = .returned (.tuple #[.int .i64 k, .int .i64 i, .int .i64 q]) ∧ Below w.heap.size w w'
set_option maxRecDepth 100000 in
theorem rat_out (w : World) (a : Nat → Option Addr) (l c : Nat → Nat) (fu lo mo d b i : Int) (h : ¬ isWay d b) :
    Calls Try.prog 100 #[dnv a l c fu lo mo, .int .i64 d, .int .i64 b, .int .i64 i] w fun e w' => DAt e w w' 0 0 62 := by
  have p := Lib.hid (fun W => rway_out W d b h)
  clear h
  unfold dnv nc
  go_enter Try.func100, Try.ntmps100
  go_wp2_with fail
  refine (p.out _).mono ?_
  rintro e w' ⟨rfl, rfl⟩
  go_wp2_with fail
  go_ret3
  exact ⟨rfl, (Below.refl _ _).alloc (Nat.le_refl _) _⟩
set_option maxRecDepth 100000 in
set_option maxHeartbeats 1000000 in
theorem rat_none (w : World) (a : Nat → Option Addr) (l c : Nat → Nat) (fu lo mo d b i : Int) (k : Nat) (q : Int) (h : W4 d b k q) (hl : l k = 0) :
    Calls Try.prog 100 #[dnv a l c fu lo mo, .int .i64 d, .int .i64 b, .int .i64 i] w fun e w' => DAt e w w' 0 0 91 := by
  have p := Lib.hid (fun W => rway4 W d b k q h)
  unfold dnv nc
  rcases h with ⟨rfl, rfl, rfl, rfl⟩ | ⟨rfl, rfl, rfl, rfl⟩ | ⟨rfl, rfl, rfl, rfl⟩ | ⟨rfl, rfl, rfl, rfl⟩
  all_goals
    go_enter Try.func100, Try.ntmps100
    go_wp2_with fail
    refine (p.out _).mono ?_
    rintro e w' ⟨rfl, rfl⟩
    go_wp2_with fail
    go_ret3
    exact ⟨rfl, (Below.refl _ _).alloc (Nat.le_refl _) _⟩
set_option maxRecDepth 100000 in
set_option maxHeartbeats 1000000 in
theorem rat_some (w : World) (a : Nat → Option Addr) (l c : Nat → Nat) (fu lo mo d b i : Int) (k : Nat) (q : Int) (h : W4 d b k q) (hl : 0 < l k) (hl2 : l k ≤ 1000000) (hi : -9223372036854775808 ≤ i ∧ i ≤ 9223372036854775807) :
    Calls Try.prog 100 #[dnv a l c fu lo mo, .int .i64 d, .int .i64 b, .int .i64 i] w fun e w' => DAt e w w' q (i % (l k : Int)) 0 := by
  have p := Lib.hid (fun W => rway4 W d b k q h)
  obtain ⟨m, hm⟩ : ∃ m, m = i % (l k : Int) := ⟨_, rfl⟩
  have r := fun W => rround_any W i (l k) hl hl2 hi
  rw [← hm] at r ⊢
  have R := Lib.hid r
  have hne : ¬ l k = 0 := by omega
  have hne' : ((l k : Int) == 0) = false := by simp; omega
  clear hm r
  unfold dnv nc
  rcases h with ⟨rfl, rfl, rfl, rfl⟩ | ⟨rfl, rfl, rfl, rfl⟩ | ⟨rfl, rfl, rfl, rfl⟩ | ⟨rfl, rfl, rfl, rfl⟩
  all_goals
    go_enter Try.func100, Try.ntmps100
    go_wp2_with fail
    refine (p.out _).mono ?_
    rintro e w' ⟨rfl, rfl⟩
    go_wp2_with fail
    refine (R.out _).mono ?_
    rintro e w' ⟨rfl, rfl⟩
    go_wp2_with fail
    go_ret3
    exact ⟨rfl, (Below.refl _ _).alloc (Nat.le_refl _) _⟩

/-! ### What the document's net holds -/
structure DN (W : World) (O : Nat → Prop) (a : Nat → Option Addr) (l c : Nat → Nat) (es : Nat → List E) (m : MN) : Prop where
  lst : ∀ k, k < 4 → Lst W (.slice (a k) (l k) (c k)) (es k)
  ln : ∀ k, k < 4 → l k = (es k).length
  len : ∀ k, k < 4 → (es k).length = (m.L k).length
  dat : ∀ k, k < 4 → ∀ (j : Nat) (e : E) (x : Ml), (es k)[j]? = some e → (m.L k)[j]? = some x → e.2 = x.2 ∧ ∃ da dc, e.1 = .slice da x.1.length dc ∧ Rd W O da x.1.length x.1
  own : ∀ k, k < 4 → ∀ g, (Value.slice (a k) (l k) (c k)).ownBlock = some g → ¬ O g
def DRes (w : World) (O : Nat → Prop) (r : MN × Int) (e : Ending) (W : World) : Prop :=
  ∃ a l c es, e = .returned (.tuple #[dnv a l c r.1.full r.1.long r.1.moved, .int .i64 r.2]) ∧ DN W O a l c es r.1 ∧ Below w.heap.size w W
section
variable {w W : World} {O : Nat → Prop} {a : Nat → Option Addr} {l c : Nat → Nat} {es : Nat → List E} {m : MN}
theorem DN.below (h : DN w O a l c es m) (hb : Below w.heap.size w W) : DN W O a l c es m :=
  ⟨fun k hk => On.below (h.lst k hk) hb (fun g hg => (h.lst k hk).lt g hg), h.ln, h.len, fun k hk j e x he hx => by
    obtain ⟨h1, da, dc, h2, h3⟩ := h.dat k hk j e x he hx
    exact ⟨h1, da, dc, h2, h3.below hb⟩, h.own⟩
theorem DN.go {O' : Nat → Prop} (h : DN w O a l c es m) (hT : Touch O w W) (hO : ∀ g, O' g → O g ∨ w.heap.size ≤ g) : DN W O' a l c es m :=
  ⟨fun k hk => On.touch (h.lst k hk) hT (h.own k hk), h.ln, h.len, fun k hk j e x he hx => by
    obtain ⟨h1, da, dc, h2, h3⟩ := h.dat k hk j e x he hx
    exact ⟨h1, da, dc, h2, h3.go hT hO⟩, fun k hk g hg hO' => (hO g hO').elim (h.own k hk g hg) (fun e => by have := (h.lst k hk).lt g hg; omega)⟩
theorem DN.sls (h : DN w O a l c es m) {k : Nat} (hk : k < 4) : Sls (es k) := by
  intro e he
  obtain ⟨j, hj⟩ := List.mem_iff_getElem?.1 he
  have hl := (List.getElem?_eq_some_iff.1 hj).1
  rw [h.len k hk] at hl
  obtain ⟨_, da, dc, h2, _⟩ := h.dat k hk j e _ hj (List.getElem?_eq_getElem hl)
  exact ⟨da, _, dc, h2⟩
theorem DN.got (h : DN w O a l c es m) {k j : Nat} {x : Ml} (hk : k < 4) (hx : (m.L k)[j]? = some x) : ∃ e da dc, (es k)[j]? = some e ∧ e.2 = x.2 ∧ e.1 = .slice da x.1.length dc ∧ Rd w O da x.1.length x.1 := by
  have hl := (List.getElem?_eq_some_iff.1 hx).1
  rw [← h.len k hk] at hl
  obtain ⟨h1, da, dc, h2, h3⟩ := h.dat k hk j _ x (List.getElem?_eq_getElem hl) hx
  exact ⟨_, da, dc, List.getElem?_eq_getElem hl, h1, h2, h3⟩
/-- A way is laid anew. -/
theorem DN.put (h : DN W O a l c es m) {k : Nat} (hk : k < 4) {x : Option Addr} {xc : Nat} {e' : List E} {l' : List Ml} (hL : Lst W (.slice x e'.length xc) e') (hln : e'.length = l'.length)
    (hd : ∀ (j : Nat) (e : E) (y : Ml), e'[j]? = some e → l'[j]? = some y → e.2 = y.2 ∧ ∃ da dc, e.1 = .slice da y.1.length dc ∧ Rd W O da y.1.length y.1) (hO : ∀ g, (Value.slice x e'.length xc).ownBlock = some g → ¬ O g) :
    DN W O (upd a k x) (upd l k e'.length) (upd c k xc) (upd es k e') (m.put k l') := by
  refine ⟨fun j hj => ?_, fun j hj => ?_, fun j hj => ?_, fun j hj i e y he hy => ?_, fun j hj g hg => ?_⟩
  all_goals by_cases q : j = k
  · subst q; rw [upd_same, upd_same, upd_same, upd_same]; exact hL
  · rw [upd_ne _ _ q, upd_ne _ _ q, upd_ne _ _ q, upd_ne _ _ q]; exact h.lst j hj
  · subst q; rw [upd_same, upd_same]
  · rw [upd_ne _ _ q, upd_ne _ _ q]; exact h.ln j hj
  · subst q; show _ = (upd m.L j l' j).length; rw [upd_same, upd_same]; exact hln
  · show _ = (upd m.L k l' j).length; rw [upd_ne _ _ q, upd_ne _ _ q]; exact h.len j hj
  · subst q
    have hy' : (upd m.L j l' j)[i]? = some y := hy
    rw [upd_same] at he hy'
    exact hd i e y he hy'
  · have hy' : (upd m.L k l' j)[i]? = some y := hy
    rw [upd_ne _ _ q] at he hy'
    exact h.dat j hj i e y he hy'
  · subst q; rw [upd_same, upd_same, upd_same] at hg; exact hO g hg
  · rw [upd_ne _ _ q, upd_ne _ _ q, upd_ne _ _ q] at hg; exact h.own j hj g hg
theorem DN.snoc (h : DN w O a l c es m) {k : Nat} (hk : k < 4) {da : Option Addr} {dc : Nat} {bs : List Int} (hr : Rd w O da bs.length bs) : ∀ (j : Nat) (e : E) (y : Ml), (es k ++ [(Value.slice da bs.length dc, (0 : Int))])[j]? = some e → (m.L k ++ [(bs, 0)])[j]? = some y → e.2 = y.2 ∧ ∃ da dc, e.1 = .slice da y.1.length dc ∧ Rd w O da y.1.length y.1 := by
  intro j e y he hy
  have hlen := h.len k hk
  by_cases q : j < (es k).length
  · rw [List.getElem?_append_left q] at he
    rw [List.getElem?_append_left (by omega)] at hy
    exact h.dat k hk j e y he hy
  · rw [List.getElem?_append_right (by omega)] at he hy
    obtain ⟨q1, q2⟩ := List.getElem?_eq_some_iff.1 he
    have q3 : j - (es k).length = 0 := by simp at q1; omega
    rw [q3] at he
    rw [← hlen, q3] at hy
    cases he; cases hy
    exact ⟨rfl, da, dc, rfl, hr⟩
theorem DN.erase (h : DN w O a l c es m) {k : Nat} (hk : k < 4) (i : Nat) : ∀ (j : Nat) (e : E) (y : Ml), ((es k).eraseIdx i)[j]? = some e → ((m.L k).eraseIdx i)[j]? = some y → e.2 = y.2 ∧ ∃ da dc, e.1 = .slice da y.1.length dc ∧ Rd w O da y.1.length y.1 := by
  intro j e y he hy
  rw [List.getElem?_eraseIdx] at he hy
  by_cases q : j < i
  · rw [if_pos q] at he hy; exact h.dat k hk j e y he hy
  · rw [if_neg q] at he hy; exact h.dat k hk (j + 1) e y he hy
end
end Go.Proofs.Ytmceaffoffemlaa.Netw
