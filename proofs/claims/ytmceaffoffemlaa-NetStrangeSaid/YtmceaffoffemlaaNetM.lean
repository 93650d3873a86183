/-
  net: the iterator behind All. Conditions: the net lies in blocks that a round keeps.
-/
import Derived.Test.YtmceaffoffemlaaNetL
import Derived.Test.YtmceaffoffemlaaRsay
import Derived.Shelf.Abstract
import Derived.Shelf.RegionOpen
import Derived.OwnWalkIn
import Derived.TacticsInMore
import Derived.LoopNIn
import Derived.LoopIn
namespace Go.Proofs.Ytmceaffoffemlaa.Netw
open Go.RowKit Go.Shelf
set_option linter.all false
attribute [local go_sem] Oper.semAt_some

theorem tick_go (W : World) (B n : Nat) (s : NS) (m : MN) (cm : Int) (h : PN W B n s m) (hm : MOk m cm) (hcm : cm ≤ 1000000) :
    Calls Try.prog 92 #[.pointer (some ⟨n, 0, none⟩)] W fun e W' => e = .returned (.tuple #[]) ∧ Went W B n s m.tick W' := by
  refine (tick_any W n s h.net (fun k hk => by rw [h.len k hk]; exact hm.len k hk) (fun k hk e he => ?_)).mono ?_
  · obtain ⟨j, hj⟩ := List.mem_iff_getElem?.1 he
    obtain ⟨x, hx, e2, _⟩ := h.get hk hj
    have := hm.sz k hk x (List.mem_of_getElem? hx)
    rw [e2]; omega
  · rintro e W' ⟨rfl, hN, hT⟩
    have e4 : ∀ k, k < 4 → tk s.es 4 0 k = oldE (s.es k) := fun k hk => by unfold tk; rw [if_pos hk]
    have get : ∀ {k j : Nat} {e : E}, k < 4 → (tk s.es 4 0 k)[j]? = some e → ∃ e0, (s.es k)[j]? = some e0 ∧ e.1 = e0.1 ∧ e.2 = e0.2 + 1 := fun {k j e} hk he => by
      rw [e4 k hk, oldE, List.getElem?_map] at he
      cases h0 : (s.es k)[j]? with
      | none => rw [h0] at he; cases he
      | some e0 => rw [h0] at he; cases he; exact ⟨e0, rfl, rfl, rfl⟩
    have hT' : Touch (fun g => g = n ∨ ∃ k, k < 4 ∧ (s.v k).ownBlock = some g) W W' := hT.mono fun g hg => .inl (.inr hg)
    have hO : ∀ g, Own { s with es := tk s.es 4 0 } n g → Own s n g := by
      rintro g (rfl | hg | ⟨k, j, e, hk, he, hg⟩)
      · exact .inl rfl
      · exact .inr (.inl hg)
      · obtain ⟨e0, h0, h1, _⟩ := get hk he
        exact .inr (.inr ⟨k, j, e0, hk, h0, by rw [← h1]; exact hg⟩)
    refine ⟨rfl, _, ⟨hN, h.full, h.long, h.moved, fun k hk => ?_, fun k hk j e x he hx => ?_, fun k j k' j' e e' g hk hk' hne he he' hg => ?_, fun g hg => h.low g (hO g hg)⟩, hT.mono fun g hg => .inl (.inr (.inl hg)), fun g hg => .inl (hO g hg)⟩
    · show (tk s.es 4 0 k).length = (older (m.L k)).length
      rw [e4 k hk, oldE, older, List.length_map, List.length_map]; exact h.len k hk
    · obtain ⟨e0, h0, h1, h2⟩ := get hk he
      have hx' : (older (m.L k))[j]? = some x := hx
      rw [older, List.getElem?_map] at hx'
      cases hx0 : (m.L k)[j]? with
      | none => rw [hx0] at hx'; cases hx'
      | some x0 =>
        rw [hx0] at hx'; cases hx'
        obtain ⟨q1, q2⟩ := h.data hT' hk h0 hx0
        rw [h1]
        exact ⟨by show e.2 = x0.2 + 1; rw [h2, q1], q2⟩
    · obtain ⟨e0, h0, h1, _⟩ := get hk he
      obtain ⟨e0', h0', h1', _⟩ := get hk' he'
      rw [h1] at hg
      rw [h1']
      exact h.dne k j k' j' e0 e0' g hk hk' hne h0 h0' hg

/-- These blocks are kept. -/
def KeepB (K : Nat → Prop) (A B : World) : Prop := ∀ k, K k → B.heap[k]? = A.heap[k]?
/-- What a round keeps; nothing goes. -/
def KeepZ (K : Nat → Prop) (A B : World) : Prop := KeepB K A B ∧ A.heap.size ≤ B.heap.size
theorem keepB_t {K : Nat → Prop} {A B C : World} (h : KeepB K A B) (h' : KeepB K B C) : KeepB K A C := fun k hk => (h' k hk).trans (h k hk)
theorem below_drewN' (w : World) (n : Nat) : Below w.heap.size w (w.drewN n) := below_drewN (Below.refl _ w) n
theorem keepZ_t {K : Nat → Prop} {A B C : World} (h : KeepZ K A B) (h' : KeepZ K B C) : KeepZ K A C := ⟨keepB_t h.1 h'.1, Nat.le_trans h.2 h'.2⟩
theorem keepB_refl {K : Nat → Prop} (A : World) : KeepB K A A := fun _ _ => rfl
theorem keepB_below {K : Nat → Prop} {A C : World} {B : Nat} (h : Below B A C) (hK : ∀ k, K k → k < B) : KeepB K A C := fun k hk => h.block k (hK k hk)
theorem cell_keep {K : Nat → Prop} {w w' : World} {b o : Nat} {v : Value} (h : w.cell? ⟨b, o, none⟩ = some v) (hb : KeepB K w w') (hK : K b) : w'.cell? ⟨b, o, none⟩ = some v :=
  (World.cell?_of_block (w := w) (a := ⟨b, o, none⟩) (hb b hK)).trans h
theorem On.keep {K : Nat → Prop} {w w' : World} {e : TypeId} {size n : Nat} {v : Value} {xs : List Value} (h : On w e size v n xs) (hb : KeepB K w w') (hK : ∀ g, v.ownBlock = some g → K g) : On w' e size v n xs := h.of_heap fun g hg => hb g (hK g hg)

/-- What the iterator hands on: a copy of the bytes, and the age. -/
def Says (l : List Ml) (k : Nat) (x : E) (W : World) : Prop := ∃ a c y, l[k]? = some y ∧ x.1 = .slice a y.1.length c ∧ x.2 = y.2 ∧ Row .u8 W a y.1.length y.1
def encM (x : E) : Array Value := #[.agg #[x.1, .int .i64 x.2]]
theorem says_put (l : List Ml) (s : Nat) (k : Nat) (x : E) (W : World) (r : Loop) (o : Obj) (h : Says l k x W) (hl : W.heap[s]? = some (.loop r)) : Says l k x (W.putObj s o) := by
  obtain ⟨a, c, y, h1, h2, h3, h4, h5⟩ := h
  refine ⟨a, c, y, h1, h2, h3, h4, fun hp => ?_⟩
  obtain ⟨b, off, e, hb, hc⟩ := h5 hp
  exact ⟨b, off, e, by simpa using hb, fun j hj => cell_put (hc j hj) hl⟩

set_option maxRecDepth 100000 in
set_option maxHeartbeats 1000000 in
theorem all_any (w : World) (n : Nat) (d b : Int) :
    Calls Try.prog 41 #[.pointer (some ⟨n, 0, none⟩), .int .i64 d, .int .i64 b] w fun e w' => e = .returned (.func (.func 77) #[] #[.pointer (some ⟨w.heap.size, 0, none⟩), .pointer (some ⟨w.heap.size + 1, 0, none⟩), .pointer (some ⟨w.heap.size + 2, 0, none⟩)]) ∧
      ((w.alloc (.cells #[.pointer (some ⟨n, 0, none⟩)] 25)).alloc (.cells #[.int .i64 d] 3)).alloc (.cells #[.int .i64 b] 3) = w' := by
  have hmf : ∀ (fn : Fn) (first cap : Array Value) (w : World), (Instr.makeFunc fn first cap).run Try.prog w = .ok (.func fn first cap) w := fun _ _ _ _ => rfl
  go_enter Try.func41, Try.ntmps41
  go_wp2
  go_ret
  exact ⟨rfl, rfl⟩

set_option maxRecDepth 100000 in
set_option maxHeartbeats 2000000 in
theorem all1_out (lo Bn Bt Bb n : Nat) (d b : Int) (J : Nat → World → Prop) (Jx : Nat → World → Prop) (W : World) (h : d < 0 ∨ (¬ d < 0 ∧ 2 ≤ d) ∨ (¬ d < 0 ∧ ¬ 2 ≤ d ∧ b < 0) ∨ (¬ d < 0 ∧ ¬ 2 ≤ d ∧ ¬ b < 0 ∧ 2 ≤ b))
    (c0 : W.cell? ⟨Bn, 0, none⟩ = some (.pointer (some ⟨n, 0, none⟩))) (c1 : W.cell? ⟨Bt, 0, none⟩ = some (.int .i64 d)) (c2 : W.cell? ⟨Bb, 0, none⟩ = some (.int .i64 b)) (hJ0 : J 0 W) :
    CallsIn Fence.wide 8 Try.prog 77 #[.func (.yield lo) #[] #[], .pointer (some ⟨Bn, 0, none⟩), .pointer (some ⟨Bt, 0, none⟩), .pointer (some ⟨Bb, 0, none⟩)] W fun e W' => (∃ v, e = .returned v) ∧ (J 0 W' ∨ ∃ k, k ≤ 0 ∧ Jx k W') := by
  refine (callsIn_wide (n := 8)).2 ?_
  have p := Lib.hid (way_out W n d b h)
  have HJ0 := Lib.hid hJ0
  clear h hJ0
  go_enter Try.func77, Try.ntmps77
  go_wp2_with fail
  refine p.out.mono ?_
  rintro e w' ⟨rfl, rfl⟩
  go_wp2_with fail
  refine bodyPost_ret (results_none rfl _ _ _) rfl ?_
  exact ⟨⟨_, rfl⟩, .inl HJ0.out⟩

/-- append, shut: a rule tells its run. -/
def appS (ts : Array TypeId) (ty : TypeId) (vs : Array Value) : Sem Value := Builtin.append_ ts ty vs
theorem append_S (ts : Array TypeId) (ty : TypeId) (vs : Array Value) : Builtin.append_ ts ty vs = appS ts ty vs := rfl
section
attribute [local go_sem ↓] append_S
set_option maxRecDepth 100000 in
set_option maxHeartbeats 4000000 in
theorem all1_in (lo Bn Bt Bb n d b B0 : Nat) (cm : Int) (K : Nat → Prop) (s : NS) (m : MN) (J Jx : Nat → World → Prop) (W : World)
    (hY : ∀ k x W1, k < (m.L (2 * d + b)).length → J k W1 → Says (m.L (2 * d + b)) k x W1 → YieldAt Fence.wide 7 Try.prog lo (encM x) W1 fun e W' =>
      (e = .returned (.bool true) ∧ J (k + 1) W' ∧ KeepZ K W1 W') ∨ (e = .returned (.bool false) ∧ Jx (k + 1) W' ∧ KeepZ K W1 W'))
    (hd : d < 2) (hb : b < 2) (hP : PN W B0 n s m) (hm : MOk m cm) (hJ : FrB W.heap.size J)
    (c0 : W.cell? ⟨Bn, 0, none⟩ = some (.pointer (some ⟨n, 0, none⟩))) (c1 : W.cell? ⟨Bt, 0, none⟩ = some (.int .i64 (d : Int))) (c2 : W.cell? ⟨Bb, 0, none⟩ = some (.int .i64 (b : Int)))
    (hKO : ∀ g, Own s n g → K g) (hK : ∀ k, K k → k < W.heap.size) (hJ0 : J 0 W) :
    CallsIn Fence.wide 8 Try.prog 77 #[.func (.yield lo) #[] #[], .pointer (some ⟨Bn, 0, none⟩), .pointer (some ⟨Bt, 0, none⟩), .pointer (some ⟨Bb, 0, none⟩)] W fun e W' => (∃ v, e = .returned v) ∧ (J (m.L (2 * d + b)).length W' ∨ ∃ k, k ≤ (m.L (2 * d + b)).length ∧ Jx k W') := by
  refine (callsIn_wide (n := 8)).2 ?_
  have p := Lib.hid (way_in W n d b hd hb)
  have hk4 : 2 * d + b < 4 := by omega
  generalize 2 * d + b = k0 at *
  obtain ⟨a0, cp, ev, hc⟩ := hP.net.slice hk4
  have hlc : (s.es k0).length ≤ cp := by
    obtain ⟨a', c', e', h', _⟩ := (hP.net.way k0 hk4).slice
    rw [ev] at e'; cases e'; exact h'
  have hlen := hP.len k0 hk4
  obtain ⟨l, hl⟩ : ∃ l, (m.L k0).length = l := ⟨_, rfl⟩
  rw [hlen, hl] at hc hlc ev
  rw [hl]
  obtain ⟨i0, hi, hz0, hz1, hz2⟩ := info_parts byte_info
  have hl128 : l ≤ 128 := by rw [← hl]; exact hm.len k0 hk4
  have HL := Lib.hid hl
  have HP := Lib.hid hP
  have HM := Lib.hid hm
  have HJ := Lib.hid hJ
  have HJ0 := Lib.hid hJ0
  have HY := Lib.hid hY
  have HEV := Lib.hid ev
  have HLEN := Lib.hid hlen
  clear hP hm hJ hJ0 hY ev hlen hl
  go_enter Try.func77, Try.ntmps77
  go_wp2_with fail
  refine p.out.mono ?_
  rintro e w' ⟨rfl, rfl⟩
  go_wp2_with fail
  go_loopw [22] (fun iv wr => ∃ j : Nat, j ≤ l ∧ iv = .int .i64 (j : Int) ∧ J j wr ∧ KeepB K W wr ∧ W.heap.size ≤ wr.heap.size) (fun iv _ => l - (intOf iv).toNat)
  case atStart => exact ⟨0, Nat.zero_le _, rfl, HJ0.out, keepB_refl _, Nat.le_refl _⟩
  case round =>
    obtain ⟨j, hj, rfl, hj0, hkp, hsz⟩ := hrel
    by_cases hlt : j < l
    · obtain ⟨x, hx⟩ : ∃ x, (m.L k0)[j]? = some x := ⟨_, List.getElem?_eq_getElem (by rw [HL.out]; exact hlt)⟩
      obtain ⟨e, he, he2, ho⟩ := HP.out.got hk4 hx
      obtain ⟨g, c', ev', hlt', _, m1, m2⟩ := mail_cell HP.out.net hk4 he
      rw [HEV.out, HLEN.out, HL.out] at ev'
      cases ev'
      have hKg : K g := hKO g (.inr (.inl ⟨k0, hk4, by rw [HEV.out]; rfl⟩))
      have n1 := cell_keep m1 hkp hKg
      have n2 := cell_keep m2 hkp hKg
      have ho2 := On.keep ho hkp (fun g' hg' => hKO g' (.inr (.inr ⟨k0, j, e, hk4, he, hg'⟩)))
      have hsz2 := (HM.out.sz k0 hk4 x (List.mem_of_getElem? hx)).1
      obtain ⟨da, dc, dv, hdl, hdc⟩ := ho2.slice
      rw [dv] at n1 ho2
      have hi0 : (0 : Int) ≤ (j : Int) := by omega
      have hi1 : (j : Int) < (l : Int) := by omega
      obtain ⟨bs, hbs⟩ : ∃ bs, bs = x.1 := ⟨_, rfl⟩
      rw [← hbs] at n1 ho2 hsz2 hdl
      obtain ⟨ag, hag⟩ : ∃ ag, ag = x.2 := ⟨_, rfl⟩
      rw [he2, ← hag] at n2
      have HX := Lib.hid (show (m.L k0)[j]? = some (bs, ag) by rw [hx, hbs, hag])
      have HO := Lib.hid ho2
      have HKP := Lib.hid hkp
      have HJJ := Lib.hid hj0
      obtain ⟨q, hq⟩ : ∃ q, q = bs.length := ⟨_, rfl⟩
      rw [← hq] at n1 hsz2 hdl
      have HQ := Lib.hid hq
      have hYk : ∀ W1 a c, Below W.heap.size wr W1 → On W1 5 1 (.slice a q c) q (bs.map (.int .u8)) → YieldAt Fence.wide 7 Try.prog lo #[.agg #[.slice a q c, .int .i64 ag]] W1 fun e W' => ∃ bb, e = .returned (.bool bb) ∧ KeepZ K W1 W' ∧ (if bb = true then J (j + 1) W' else Jx (j + 1) W') := fun W1 a c hb hon => by
        have hon' := hon
        rw [HQ.out] at hon'
        have := HY.out j (.slice a q c, ag) W1 (by rw [HL.out]; exact hlt) (HJ.out _ _ _ HJJ.out hb) ⟨a, c, (bs, ag), HX.out, by rw [HQ.out], rfl, on_row hon'⟩
        unfold encM at this
        obtain ⟨fn, tmps, assign, body, hy, hR⟩ := this
        refine ⟨fn, tmps, assign, body, hy, RoundIn.mono hR (fun e W' h => ?_)⟩
        rcases h with ⟨rfl, h1, h2⟩ | ⟨rfl, h1, h2⟩
        · exact ⟨true, rfl, h2, by simpa using h1⟩
        · exact ⟨false, rfl, h2, by simpa using h1⟩
      have HYk := Lib.hid hYk
      clear hYk hq he2 hag hbs dv hx he m1 m2 ho ho2 hkp hj0 hc hlt' hlc
      have z1 : wr.heap.size < (wr.alloc (.cells #[.slice da q dc, .int .i64 ag] 91)).heap.size := by simp
      have hU : Below wr.heap.size wr ((wr.alloc (.cells #[.slice da q dc, .int .i64 ag] 91)).alloc (.cells #[] 5)).drew := below_drewN (((Below.refl _ wr).alloc (Nat.le_refl _) _).alloc (by simp) _) 1
      obtain ⟨v1, w1, hrun, hon, hg1, hv1⟩ := run_append_on (P := Try.prog) ((wr.alloc (.cells #[.slice da q dc, .int .i64 ag] 91)).alloc (.cells #[] 5)).drew 27 27 5 i0 _ 1 1 Try.underlying27 hi hz0 hz1 hz2 rfl (by omega) (.slice (some ⟨(wr.alloc (.cells #[.slice da q dc, .int .i64 ag] 91)).heap.size, 0, none⟩) 0 0) 0 [] ((On.empty (wr.alloc (.cells #[.slice da q dc, .int .i64 ag] 91)) _ _).drew)
        da q dc (bs.map (.int .u8)) (by rw [List.length_map, Nat.mul_one, HQ.out]) (by
          have h2 := HO.out.below hU (fun g hg => HO.out.lt g hg)
          rw [← HQ.out] at h2
          exact h2.src) (one_u8 bs) (by simp only [maxLen]; omega) (by omega)
      rw [Nat.zero_add, List.nil_append] at hon
      have hB1 : Below wr.heap.size wr w1 := by
        refine hU.trans ⟨hg1.os, hg1.tape, hg1.output, hg1.size, fun k hk => hg1.block k (Nat.lt_of_lt_of_le hk hU.size) (fun e => ?_)⟩
        simp [Value.ownBlock] at e
        omega
      have hbx : Blk w1 wr.heap.size 91 #[.slice da q dc, .int .i64 ag] := Blk.grown' hg1 (Blk.drew ((Blk.new wr _ _).alloc _)) (by simp [Value.ownBlock])
      have cT : w1.cell? ⟨wr.heap.size, 1, none⟩ = some (.int .i64 ag) := hbx.cell 1
      obtain ⟨a1, c1', rfl, _, _⟩ := hon.slice
      obtain ⟨fn, tmps, assign, body, hy, hR⟩ := HYk.out w1 a1 c1' (hB1.mono hsz) hon
      have HB1 := Lib.hid hB1
      rw [append_S] at hrun
      simp only [World.size_alloc] at hrun
      clear hB1 hbx hon hg1 hv1 hU
      go_upto_region 5 with fail
      refine (wpIn_wide (n := 8)).1 ?_
      gi_region_with (refine hR.mono ?_; rintro e W6 ⟨bb, rfl, hkt, hq⟩)
      all_goals
        have hk6 : KeepB K W W6 := keepB_t HKP.out (keepB_t (keepB_below HB1.out (fun k hk => Nat.lt_of_lt_of_le (hK k hk) hsz)) hkt.1)
        have hz6 : W.heap.size ≤ W6.heap.size := Nat.le_trans (Nat.le_trans hsz HB1.out.size) hkt.2
        clear hR hrun hy cT hkt
        cases bb
        · have hq' : Jx (j + 1) W6 := by simpa using hq
          clear hq
          go_wp2_with fail
          refine bodyPost_ret (results_none rfl _ _ _) rfl ⟨⟨_, rfl⟩, .inr ⟨j + 1, hlt, hq'⟩⟩
        · have hq' : J (j + 1) W6 := by simpa using hq
          clear hq
          go_wp2_with fail
          go_roundw
          case rel => exact ⟨j + 1, by omega, by go_num, hq', hk6, hz6⟩
          case measure => simp [intOf]; omega
    · obtain rfl : j = l := by omega
      have HJJ := Lib.hid hj0
      clear hj0
      go_wp2_with fail
      go_end0
      exact ⟨⟨_, rfl⟩, .inl HJJ.out⟩
end
end Go.Proofs.Ytmceaffoffemlaa.Netw
