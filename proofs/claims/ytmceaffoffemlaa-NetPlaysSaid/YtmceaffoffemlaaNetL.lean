/-
  net: Spoil and Tick. Condition: ages below a million.
-/
import Derived.Test.YtmceaffoffemlaaNetK
namespace Go.Proofs.Ytmceaffoffemlaa.Netw
open Go.RowKit
set_option linter.all false

theorem On.store_n {w : World} {e : TypeId} {size n g cap : Nat} {xs : List Value} (h : On w e size (.slice (some ⟨g, 0, none⟩) n cap) n xs) (k : Nat) (u : Value) : On (w.setCell ⟨g, k, none⟩ u) e size (.slice (some ⟨g, 0, none⟩) n cap) n (xs.set k u) := by
  have hl := h.1
  rcases h.2 with ⟨hv, _⟩ | ⟨g', cap', cur, hv, hg, hnc, hcm, hcs, htake⟩
  · cases hv
  · cases hv
    refine ⟨by rw [List.length_set]; exact hl, .inr ⟨g, cap, cur.setIfInBounds k u, rfl, ?_, hnc, hcm, by simpa using hcs, ?_⟩⟩
    · exact Blk.set_ (t := e) hg k u
    · rw [← htake, Array.toList_setIfInBounds, List.take_set]

set_option maxRecDepth 100000 in
set_option maxHeartbeats 2000000 in
theorem spoil_empty (w : World) (n d b m c2 : Nat) (i y : Int) (s : NS) (e : E) (a2 : Option Addr) (h : NAt w n s) (hd : d < 2) (hb : b < 2)
    (hm : (s.es (2 * d + b))[m]? = some e) (him : (-1) % ((s.es (2 * d + b)).length : Int) = m) (hlen : (s.es (2 * d + b)).length ≤ 128) (he : e.1 = .slice a2 0 c2) :
    Calls Try.prog 45 #[.pointer (some ⟨n, 0, none⟩), .int .i64 d, .int .i64 b, .int .i64 i, .int .u8 y] w fun e w' => e = .returned (.int .i64 0) ∧ w = w' := by
  have hk4 : 2 * d + b < 4 := by omega
  obtain ⟨g, c, e1, hlt, hlc, m0, m1⟩ := mail_cell h hk4 hm
  have hc := h.cell hk4
  rw [e1] at hc
  have p := at_some w n d b _ c (-1) _ hd hb (by omega) (by omega) (by omega) hc
  rw [him] at p
  rw [he] at m0
  have p := Lib.hid p
  have hi1 : (0 : Int) ≤ (m : Int) := by omega
  have hi2 : (m : Int) < ((s.es (2 * d + b)).length : Int) := by omega
  clear m1 h
  generalize (s.es (2 * d + b)).length = len at *
  go_enter Try.func45, Try.ntmps45
  go_wp2_with fail
  refine p.out.mono ?_
  rintro e w' ⟨rfl, rfl⟩
  go_wp2_with fail
  go_ret
  exact ⟨rfl, rfl⟩

set_option maxRecDepth 100000 in
set_option maxHeartbeats 2000000 in
theorem spoil_yes (w : World) (n d b m c2 l q g2 : Nat) (i y z : Int) (s : NS) (e : E) (h : NAt w n s) (hd : d < 2) (hb : b < 2) (hi : -9223372036854775808 ≤ i ∧ i ≤ 9223372036854775807)
    (hm : (s.es (2 * d + b))[m]? = some e) (him : (-1) % ((s.es (2 * d + b)).length : Int) = m) (hlen : (s.es (2 * d + b)).length ≤ 128) (he : e.1 = .slice (some ⟨g2, 0, none⟩) l c2)
    (hl : 0 < l) (hl2 : l ≤ 1400) (hq : i % (l : Int) = q) (hz : w.cell? ⟨g2, q, none⟩ = some (.int .u8 z)) (hfz : w.frozen? ⟨g2, q, none⟩ = false) :
    Calls Try.prog 45 #[.pointer (some ⟨n, 0, none⟩), .int .i64 d, .int .i64 b, .int .i64 i, .int .u8 y] w fun e w' => e = .returned (.int .i64 0) ∧ w.setCell ⟨g2, q, none⟩ (.int .u8 (bits .xor .u8 z y)) = w' := by
  have hk4 : 2 * d + b < 4 := by omega
  obtain ⟨g, c, e1, hlt, hlc, m0, m1⟩ := mail_cell h hk4 hm
  have hc := h.cell hk4
  rw [e1] at hc
  have p := at_some w n d b _ c (-1) _ hd hb (by omega) (by omega) (by omega) hc
  rw [him] at p
  rw [he] at m0
  have p := Lib.hid p
  have hi1 : (0 : Int) ≤ (m : Int) := by omega
  have hi2 : (m : Int) < ((s.es (2 * d + b)).length : Int) := by omega
  clear m1 h
  generalize (s.es (2 * d + b)).length = len at *
  have hT := tmod_cases i l hl
  rw [hq] at hT
  have x1 := Int.emod_nonneg i (show (l : Int) ≠ 0 by omega)
  have x2 := Int.emod_lt_of_pos i (show (0 : Int) < (l : Int) by omega)
  rw [hq] at x1 x2
  have hw : IntKind.i64.wrap (Int.tmod i (l : Int)) = Int.tmod i (l : Int) := IntWalk.i64_in _ (by omega)
  have hl0 : ((l : Int) == 0) = false := by simp; omega
  have hln : ¬ l = 0 := by omega
  clear hq him
  rcases hT with ⟨t1, t2⟩ | ⟨t1, t2⟩
  all_goals
    go_enter Try.func45, Try.ntmps45
    go_wp2_with fail
    refine p.out.mono ?_
    rintro e w' ⟨rfl, rfl⟩
    go_wp2_with fail
    go_ret
    exact ⟨rfl, rfl⟩

theorem spoil_any (W : World) (B n : Nat) (s : NS) (m : MN) (cm : Int) (d b i y : Int) (h : PN W B n s m) (hm : MOk m cm) (hi : -9223372036854775808 ≤ i ∧ i ≤ 9223372036854775807) :
    Calls Try.prog 45 #[.pointer (some ⟨n, 0, none⟩), .int .i64 d, .int .i64 b, .int .i64 i, .int .u8 y] W (SendTo W B n s (m.spoil d b i y)) := by
  unfold MN.spoil
  by_cases hw : isWay d b
  · rw [if_pos hw]
    have hk4 := wayNo_lt hw
    cases hx : (m.L (wayNo d b))[place (-1) (m.L (wayNo d b))]? with
    | none =>
      refine (spoil_no W n d b i y 91 (at_no (-1) h.net hw (h.empty hw hx)) (by decide)).mono ?_
      rintro e w' ⟨rfl, rfl⟩
      exact ⟨rfl, Went.self h (Below.refl _ _)⟩
    | some x =>
      have hne : m.L (wayNo d b) ≠ [] := fun e => by rw [e] at hx; simp at hx
      have hpl := (place_lt (-1) hne).2
      obtain ⟨e, he, he2, ho⟩ := h.got hk4 hx
      have hlen := hm.len _ hk4
      have hll := h.len _ hk4
      have hsz := (hm.sz _ hk4 x (List.mem_of_getElem? hx)).1
      obtain ⟨x1, y1, rfl, rfl, hx1, hy1, hk⟩ := isWay_nat hw
      rw [hk] at hk4 hx hpl he hlen hll ⊢
      dsimp only
      by_cases hx0 : x.1 = []
      · rw [if_pos hx0]
        obtain ⟨a, c, hv, _⟩ := ho.slice
        rw [hx0] at hv
        refine (spoil_empty W n x1 y1 (place (-1) (m.L (2 * x1 + y1))) c i y s e a h.net hx1 hy1 he (by rw [hll]; exact hpl) (by omega) hv).mono ?_
        rintro e w' ⟨rfl, rfl⟩
        exact ⟨rfl, Went.self h (Below.refl _ _)⟩
      · rw [if_neg hx0]
        have hl : 0 < x.1.length := List.length_pos_iff.2 hx0
        rcases ho.form with ⟨_, h0, _⟩ | ⟨g, cap, hv, hnc, hcm, hown, hg, hcs, hfr⟩
        · omega
        obtain ⟨q, hq⟩ : ∃ q : Nat, (i % (x.1.length : Int)) = q := ⟨(i % (x.1.length : Int)).toNat, by have := Int.emod_nonneg i (show (x.1.length : Int) ≠ 0 by omega); omega⟩
        have hql : q < x.1.length := by have := Int.emod_lt_of_pos i (show (0 : Int) < (x.1.length : Int) by omega); omega
        have hz := hcs q (.int .u8 (nth x.1 q)) (by simp [nth, List.getD, hql])
        refine (spoil_yes W n x1 y1 (place (-1) (m.L (2 * x1 + y1))) cap x.1.length q g i y (nth x.1 q) s e h.net hx1 hy1 hi he (by rw [hll]; exact hpl) (by omega) hv hl hsz hq hz (hfr q)).mono ?_
        rintro e' w' ⟨rfl, rfl⟩
        have hog : Own s n g := .inr (.inr ⟨_, _, e, hk4, he, hown⟩)
        have hgn : n ≠ g := fun e => by have := ho.blk_ne h.net.box (by decide); rw [hown, e] at this; exact this rfl
        have hgw : ∀ j, j < 4 → (s.v j).ownBlock ≠ some g := fun j hj hg' => on_ne' ho (h.net.way j hj) (by decide) g hown hg'
        refine ⟨rfl, s, ⟨⟨h.net.box.far (p := ⟨g, q, none⟩) hgn _, fun j hj => (h.net.way j hj).far (p := ⟨g, q, none⟩) (hgw j hj) _, h.net.ne⟩, h.full, h.long, h.moved, fun j hj => ?_, fun j hj j2 e2 x2 he2' hx2 => ?_, h.dne, h.low⟩, (Touch.refl _ W).setCell (.inl hog) _, fun g hg => .inl hg⟩
        · show _ = (upd m.L _ _ j).length
          by_cases c : j = 2 * x1 + y1
          · subst c; rw [upd_same, List.length_set]; exact hll
          · rw [upd_ne _ _ c]; exact h.len j hj
        · have hx2' : (upd m.L (2 * x1 + y1) ((m.L (2 * x1 + y1)).set (place (-1) (m.L (2 * x1 + y1))) (xorAt x.1 i y, x.2)) j)[j2]? = some x2 := hx2
          by_cases c : j = 2 * x1 + y1
          · subst c
            rw [upd_same, List.getElem?_set] at hx2'
            by_cases c2 : place (-1) (m.L (2 * x1 + y1)) = j2
            · rw [if_pos c2] at hx2'
              split at hx2'
              · cases hx2'
                rw [c2, he2'] at he
                cases he
                refine ⟨he2, ?_⟩
                rw [hv] at ho ⊢
                have := ho.store q (.int .u8 (bits .xor .u8 (nth x.1 q) y))
                show On _ _ 1 _ (xorAt x.1 i y).length ((xorAt x.1 i y).map (.int .u8))
                have e1 : xorAt x.1 i y = x.1.set q (bits .xor .u8 (nth x.1 q) y) := by unfold xorAt; rw [hq]; rfl
                rw [e1, List.length_set, List.map_set]
                exact this
              · cases hx2'
            · rw [if_neg c2] at hx2'
              obtain ⟨q1, q2⟩ := h.dat _ hj j2 e2 x2 he2' hx2'
              exact ⟨q1, q2.far (p := ⟨g, q, none⟩) (h.dne _ _ _ _ e e2 g hk4 hk4 (.inr c2) he he2' hown) _⟩
          · rw [upd_ne _ _ c] at hx2'
            obtain ⟨q1, q2⟩ := h.dat _ hj j2 e2 x2 he2' hx2'
            exact ⟨q1, q2.far (p := ⟨g, q, none⟩) (h.dne _ _ _ _ e e2 g hk4 hj (.inl (Ne.symm c)) he he2' hown) _⟩
  · rw [if_neg hw]
    refine (spoil_no W n d b i y 62 (at_out W n d b (-1) (not_way hw)) (by decide)).mono ?_
    rintro e w' ⟨rfl, rfl⟩
    exact ⟨rfl, Went.self h (Below.refl _ _)⟩

/-! ### Tick -/
def oldE (l : List E) : List E := l.map fun e => (e.1, e.2 + 1)
def tk (f : Nat → List E) (k i : Nat) : Nat → List E := fun j => if j < k then oldE (f j) else if j = k then oldE ((f k).take i) ++ (f k).drop i else f j
theorem tk_len (f : Nat → List E) (k i j : Nat) : (tk f k i j).length = (f j).length := by
  unfold tk oldE
  by_cases h1 : j < k
  · rw [if_pos h1, List.length_map]
  · rw [if_neg h1]
    by_cases h2 : j = k
    · rw [if_pos h2, List.length_append, List.length_map, List.length_take, List.length_drop, h2]; omega
    · rw [if_neg h2]
theorem tk_zero (f : Nat → List E) : tk f 0 0 = f := by
  funext j; unfold tk
  rw [if_neg (by omega)]
  by_cases h : j = 0
  · rw [if_pos h, h]; simp [oldE]
  · rw [if_neg h]
theorem tk_next (f : Nat → List E) (k : Nat) : tk f k (f k).length = tk f (k + 1) 0 := by
  funext j; unfold tk
  by_cases h1 : j < k
  · rw [if_pos h1, if_pos (by omega)]
  · rw [if_neg h1]
    by_cases h2 : j = k
    · rw [if_pos h2, if_pos (by omega), List.take_of_length_le (Nat.le_refl _), List.drop_of_length_le (Nat.le_refl _), h2, List.append_nil]
    · rw [if_neg h2, if_neg (by omega)]
      by_cases h3 : j = k + 1
      · rw [if_pos h3, h3]; simp [oldE]
      · rw [if_neg h3]
theorem tk_at (f : Nat → List E) (k i : Nat) {e : E} (he : (f k)[i]? = some e) : (tk f k i k)[i]? = some e ∧ tk f k (i + 1) = upd (tk f k i) k ((tk f k i k).set i (e.1, e.2 + 1)) := by
  obtain ⟨hi, hv⟩ := List.getElem?_eq_some_iff.1 he
  have hlen : (oldE ((f k).take i)).length = i := by unfold oldE; rw [List.length_map, List.length_take]; omega
  have e0 : tk f k i k = oldE ((f k).take i) ++ (f k).drop i := by unfold tk; rw [if_neg (by omega), if_pos rfl]
  have hd : (f k).drop i = e :: (f k).drop (i + 1) := by rw [List.drop_eq_getElem_cons hi, hv]
  constructor
  · rw [e0, List.getElem?_append_right (by omega), hlen, Nat.sub_self, hd]; rfl
  · funext j
    by_cases h : j = k
    · subst h
      rw [upd_same, e0, List.set_append, if_neg (by omega), hlen, Nat.sub_self, hd]
      unfold tk
      rw [if_neg (by omega), if_pos rfl, List.take_succ_eq_append_getElem hi, hv]
      simp [oldE]
    · rw [upd_ne _ _ h]; unfold tk; rw [if_neg h, if_neg h]
def TickAt (w : World) (n : Nat) (s : NS) (k i : Nat) (W : World) : Prop := NAt W n { s with es := tk s.es k i } ∧ Touch (fun g => ∃ k, k < 4 ∧ (s.v k).ownBlock = some g) w W
theorem flat_set (l : List E) (i : Nat) {e : E} (he : l[i]? = some e) (x : Int) : (flat ecs l).set (i * 2 + 1) (.int .i64 x) = flat ecs (l.set i (e.1, x)) := by
  induction l generalizing i with
  | nil => simp at he
  | cons a r ih =>
    cases i with
    | zero => simp at he; subst he; simp [flat, ecs]
    | succ i =>
      have he' : r[i]? = some e := by simpa using he
      have := ih i he'
      have e2 : (i + 1) * 2 + 1 = (i * 2 + 1) + 2 := by omega
      rw [e2]
      simp only [flat, List.flatMap_cons, List.set_cons_succ] at this ⊢
      simp only [ecs, List.cons_append, List.nil_append, List.set_cons_succ]
      rw [← this]
theorem TickAt.round {w W : World} {n k i g c : Nat} {s : NS} {e : E} (h : TickAt w n s k i W) (hk : k < 4) (he : (s.es k)[i]? = some e) (hv : s.v k = .slice (some ⟨g, 0, none⟩) (s.es k).length c) :
    TickAt w n s k (i + 1) (W.setCell ⟨g, i * 2 + 1, none⟩ (.int .i64 (e.2 + 1))) := by
  obtain ⟨hN, hT⟩ := h
  obtain ⟨t1, t2⟩ := tk_at s.es k i he
  have hown : (s.v k).ownBlock = some g := by rw [hv]; rfl
  have hway := hN.way k hk
  have hgn : n ≠ g := fun e => by
    have := hway.blk_ne hN.box (by decide)
    exact this (by show (s.v k).ownBlock = some n; rw [hown, e])
  refine ⟨⟨hN.box.far (p := ⟨g, i * 2 + 1, none⟩) hgn _, fun j hj => ?_, hN.ne⟩, hT.setCell (.inl ⟨k, hk, hown⟩) _⟩
  show On _ _ 2 (s.v j) (tk s.es k (i + 1) j).length (flat ecs (tk s.es k (i + 1) j))
  rw [t2]
  by_cases c : j = k
  · subst c
    rw [upd_same, ← flat_set _ i t1, List.length_set]
    have hw : On W 91 2 (s.v j) (tk s.es j i j).length (flat ecs (tk s.es j i j)) := hway
    rw [tk_len, hv] at hw ⊢
    exact On.store_n hw _ _
  · rw [upd_ne _ _ c]
    exact (hN.way j hj).far (p := ⟨g, i * 2 + 1, none⟩) (fun hg => hN.ne j k g hj hk c hg hown) _
/-- Each way's slice in the middle of a tick, and the mail that is next. -/
theorem TickAt.cell {w W : World} {n k i : Nat} {s : NS} (h : TickAt w n s k i W) (hk : k < 4) : ∃ a c, s.v k = .slice a (s.es k).length c ∧ (s.es k).length ≤ c ∧ W.cell? ⟨n, k, none⟩ = some (.slice a (s.es k).length c) := by
  have hw := h.1.way k hk
  have e : (tk s.es k i k).length = (s.es k).length := tk_len _ _ _ _
  obtain ⟨a, c, e1, hc, _⟩ := hw.slice
  have e1' : s.v k = .slice a (tk s.es k i k).length c := e1
  have hc' : (tk s.es k i k).length ≤ c := hc
  rw [e] at e1' hc'
  exact ⟨a, c, e1', hc', by have := h.1.cell hk; rw [this]; exact congrArg some e1'⟩
theorem TickAt.mail {w W : World} {n k i c : Nat} {s : NS} {e : E} {a : Option Addr} (h : TickAt w n s k i W) (hk : k < 4) (he : (s.es k)[i]? = some e) (hv : s.v k = .slice a (s.es k).length c) :
    ∃ g, a = some ⟨g, 0, none⟩ ∧ W.cell? ⟨g, i * 2 + 1, none⟩ = some (.int .i64 e.2) ∧ W.frozen? ⟨g, i * 2 + 1, none⟩ = false := by
  obtain ⟨t1, t2⟩ := tk_at s.es k i he
  have hlt := (List.getElem?_eq_some_iff.1 he).1
  rcases (h.1.way k hk).form with ⟨_, h0, _⟩ | ⟨g, c', e1, hnc, hcm, hown, hg, hc, hf⟩
  · have h0' : (tk s.es k i k).length = 0 := h0
    rw [tk_len] at h0'; omega
  · have e1' : s.v k = .slice (some ⟨g, 0, none⟩) (tk s.es k i k).length c' := e1
    rw [tk_len, hv] at e1'
    cases e1'
    have g1 := flat_get (cs := ecs) (s := 2) (fun _ => rfl) (tk s.es k i k) t1 (i := 1) (by omega)
    exact ⟨g, rfl, hc (i * 2 + 1) _ g1, hf _⟩

set_option maxRecDepth 100000 in
set_option maxHeartbeats 4000000 in
theorem tick_any (w : World) (n : Nat) (s : NS) (h : NAt w n s) (hlen : ∀ k, k < 4 → (s.es k).length ≤ 128) (hage : ∀ k, k < 4 → ∀ e ∈ s.es k, 0 ≤ e.2 ∧ e.2 ≤ 1000000) :
    Calls Try.prog 92 #[.pointer (some ⟨n, 0, none⟩)] w fun e w' => e = .returned (.tuple #[]) ∧ TickAt w n s 4 0 w' := by
  have h0 : TickAt w n s 0 0 w := ⟨by rw [tk_zero]; exact h, Touch.refl _ _⟩
  clear h
  have h0 := Lib.hid h0
  have hage := Lib.hid hage
  go_enter Try.func92, Try.ntmps92
  go_wp2_with fail
  go_loopw [5] (fun r W => (r = .int .i64 0 ∧ TickAt w n s 0 0 W) ∨ (r = .int .i64 1 ∧ TickAt w n s 2 0 W) ∨ (r = .int .i64 2 ∧ TickAt w n s 4 0 W)) (fun r _ => 2 - (intOf r).toNat)
  case atStart => exact .inl ⟨rfl, h0.out⟩
  case round =>
    rcases hrel with ⟨rfl, hT⟩ | ⟨rfl, hT⟩ | ⟨rfl, hT⟩
    · have HT0 := Lib.hid hT
      clear hT
      go_wp2_with fail
      go_loopw [8] (fun q W => (q = .int .i64 0 ∧ TickAt w n s 0 0 W) ∨ (q = .int .i64 1 ∧ TickAt w n s 1 0 W) ∨ (q = .int .i64 2 ∧ TickAt w n s 2 0 W)) (fun q _ => 2 - (intOf q).toNat)
      case atStart => exact .inl ⟨rfl, HT0.out⟩
      case round =>
      rcases hrel with ⟨rfl, hT⟩ | ⟨rfl, hT⟩ | ⟨rfl, hT⟩
      · obtain ⟨a0, c0, ev0, hlc0, hc0⟩ := hT.cell (k := 0) (by omega)
        have HV0 := Lib.hid ev0
        clear ev0
        have hln := hlen 0 (by omega)
        have HT := Lib.hid hT
        clear hT
        have HN := Lib.hid (tk_next s.es 0)
        obtain ⟨len, hle⟩ : ∃ len, len = (s.es 0).length := ⟨_, rfl⟩
        rw [← hle] at hc0 hlc0 hln
        have HL := Lib.hid hle
        clear hle
        go_wp2_with fail
        go_loopw [20] (fun i W => ∃ j : Nat, j ≤ len ∧ i = .int .i64 j ∧ TickAt w n s 0 j W) (fun i _ => len - (intOf i).toNat)
        case atStart => exact ⟨0, Nat.zero_le _, rfl, HT.out⟩
        case round =>
          obtain ⟨j, hj, rfl, hT⟩ := hrel
          by_cases hlt : j < len
          · obtain ⟨e, he⟩ : ∃ e, (s.es 0)[j]? = some e := ⟨_, List.getElem?_eq_getElem (by rw [← HL.out]; exact hlt)⟩
            obtain ⟨g, rfl, m1, m2⟩ := hT.mail (by omega) he HV0.out
            obtain ⟨ag1, ag2⟩ := hage.out 0 (by omega) e (List.mem_of_getElem? he)
            obtain ⟨a', c', ev', _, hcc⟩ := hT.cell (k := 0) (by omega)
            rw [HV0.out] at ev'
            cases ev'
            rw [← HL.out] at hcc
            have i1 : (0 : Int) ≤ (j : Int) := by omega
            have i2 : (j : Int) < (len : Int) := by omega
            have HT := Lib.hid hT
            have HE := Lib.hid he
            clear hT he hc0
            generalize hev : e.2 = ev at m1 ag1 ag2
            have HEV := Lib.hid hev
            clear hev
            go_wp2_with fail
            go_roundw
            case rel =>
              refine ⟨j + 1, by omega, by go_num, ?_⟩
              have := TickAt.round HT.out (by omega) HE.out (by rw [← HL.out]; exact (HV0.out.trans (by rw [← HL.out])))
              rw [HEV.out] at this
              exact this
            case measure => simp [intOf]; omega
          · obtain rfl : j = len := by omega
            have HT2 : Hid (TickAt w n s 1 0 wr) := Lib.hid (by
              have q := hT
              unfold TickAt at q ⊢
              rw [HL.out, HN.out] at q
              exact q)
            clear hT hc0
            go_wp2_with fail
            go_roundw
            case rel => exact .inr (.inl ⟨rfl, HT2.out⟩)
            case measure => simp [intOf]
      · obtain ⟨a1, c1, ev1, hlc1, hc1⟩ := hT.cell (k := 1) (by omega)
        have HV1 := Lib.hid ev1
        clear ev1
        have hln := hlen 1 (by omega)
        have HT := Lib.hid hT
        clear hT
        have HN := Lib.hid (tk_next s.es 1)
        obtain ⟨len, hle⟩ : ∃ len, len = (s.es 1).length := ⟨_, rfl⟩
        rw [← hle] at hc1 hlc1 hln
        have HL := Lib.hid hle
        clear hle
        go_wp2_with fail
        go_loopw [20] (fun i W => ∃ j : Nat, j ≤ len ∧ i = .int .i64 j ∧ TickAt w n s 1 j W) (fun i _ => len - (intOf i).toNat)
        case atStart => exact ⟨0, Nat.zero_le _, rfl, HT.out⟩
        case round =>
          obtain ⟨j, hj, rfl, hT⟩ := hrel
          by_cases hlt : j < len
          · obtain ⟨e, he⟩ : ∃ e, (s.es 1)[j]? = some e := ⟨_, List.getElem?_eq_getElem (by rw [← HL.out]; exact hlt)⟩
            obtain ⟨g, rfl, m1, m2⟩ := hT.mail (by omega) he HV1.out
            obtain ⟨ag1, ag2⟩ := hage.out 1 (by omega) e (List.mem_of_getElem? he)
            obtain ⟨a', c', ev', _, hcc⟩ := hT.cell (k := 1) (by omega)
            rw [HV1.out] at ev'
            cases ev'
            rw [← HL.out] at hcc
            have i1 : (0 : Int) ≤ (j : Int) := by omega
            have i2 : (j : Int) < (len : Int) := by omega
            have HT := Lib.hid hT
            have HE := Lib.hid he
            clear hT he hc1
            generalize hev : e.2 = ev at m1 ag1 ag2
            have HEV := Lib.hid hev
            clear hev
            go_wp2_with fail
            go_roundw
            case rel =>
              refine ⟨j + 1, by omega, by go_num, ?_⟩
              have := TickAt.round HT.out (by omega) HE.out (by rw [← HL.out]; exact (HV1.out.trans (by rw [← HL.out])))
              rw [HEV.out] at this
              exact this
            case measure => simp [intOf]; omega
          · obtain rfl : j = len := by omega
            have HT2 : Hid (TickAt w n s 2 0 wr) := Lib.hid (by
              have q := hT
              unfold TickAt at q ⊢
              rw [HL.out, HN.out] at q
              exact q)
            clear hT hc1
            go_wp2_with fail
            go_roundw
            case rel => exact .inr (.inr ⟨rfl, HT2.out⟩)
            case measure => simp [intOf]
      · have HT := Lib.hid hT
        clear hT
        go_wp2_with fail
        go_roundw
        case rel => exact .inr (.inl ⟨rfl, HT.out⟩)
        case measure => simp [intOf]
    · have HT0 := Lib.hid hT
      clear hT
      go_wp2_with fail
      go_loopw [8] (fun q W => (q = .int .i64 0 ∧ TickAt w n s 2 0 W) ∨ (q = .int .i64 1 ∧ TickAt w n s 3 0 W) ∨ (q = .int .i64 2 ∧ TickAt w n s 4 0 W)) (fun q _ => 2 - (intOf q).toNat)
      case atStart => exact .inl ⟨rfl, HT0.out⟩
      case round =>
      rcases hrel with ⟨rfl, hT⟩ | ⟨rfl, hT⟩ | ⟨rfl, hT⟩
      · obtain ⟨a2, c2, ev2, hlc2, hc2⟩ := hT.cell (k := 2) (by omega)
        have HV2 := Lib.hid ev2
        clear ev2
        have hln := hlen 2 (by omega)
        have HT := Lib.hid hT
        clear hT
        have HN := Lib.hid (tk_next s.es 2)
        obtain ⟨len, hle⟩ : ∃ len, len = (s.es 2).length := ⟨_, rfl⟩
        rw [← hle] at hc2 hlc2 hln
        have HL := Lib.hid hle
        clear hle
        go_wp2_with fail
        go_loopw [20] (fun i W => ∃ j : Nat, j ≤ len ∧ i = .int .i64 j ∧ TickAt w n s 2 j W) (fun i _ => len - (intOf i).toNat)
        case atStart => exact ⟨0, Nat.zero_le _, rfl, HT.out⟩
        case round =>
          obtain ⟨j, hj, rfl, hT⟩ := hrel
          by_cases hlt : j < len
          · obtain ⟨e, he⟩ : ∃ e, (s.es 2)[j]? = some e := ⟨_, List.getElem?_eq_getElem (by rw [← HL.out]; exact hlt)⟩
            obtain ⟨g, rfl, m1, m2⟩ := hT.mail (by omega) he HV2.out
            obtain ⟨ag1, ag2⟩ := hage.out 2 (by omega) e (List.mem_of_getElem? he)
            obtain ⟨a', c', ev', _, hcc⟩ := hT.cell (k := 2) (by omega)
            rw [HV2.out] at ev'
            cases ev'
            rw [← HL.out] at hcc
            have i1 : (0 : Int) ≤ (j : Int) := by omega
            have i2 : (j : Int) < (len : Int) := by omega
            have HT := Lib.hid hT
            have HE := Lib.hid he
            clear hT he hc2
            generalize hev : e.2 = ev at m1 ag1 ag2
            have HEV := Lib.hid hev
            clear hev
            go_wp2_with fail
            go_roundw
            case rel =>
              refine ⟨j + 1, by omega, by go_num, ?_⟩
              have := TickAt.round HT.out (by omega) HE.out (by rw [← HL.out]; exact (HV2.out.trans (by rw [← HL.out])))
              rw [HEV.out] at this
              exact this
            case measure => simp [intOf]; omega
          · obtain rfl : j = len := by omega
            have HT2 : Hid (TickAt w n s 3 0 wr) := Lib.hid (by
              have q := hT
              unfold TickAt at q ⊢
              rw [HL.out, HN.out] at q
              exact q)
            clear hT hc2
            go_wp2_with fail
            go_roundw
            case rel => exact .inr (.inl ⟨rfl, HT2.out⟩)
            case measure => simp [intOf]
      · obtain ⟨a3, c3, ev3, hlc3, hc3⟩ := hT.cell (k := 3) (by omega)
        have HV3 := Lib.hid ev3
        clear ev3
        have hln := hlen 3 (by omega)
        have HT := Lib.hid hT
        clear hT
        have HN := Lib.hid (tk_next s.es 3)
        obtain ⟨len, hle⟩ : ∃ len, len = (s.es 3).length := ⟨_, rfl⟩
        rw [← hle] at hc3 hlc3 hln
        have HL := Lib.hid hle
        clear hle
        go_wp2_with fail
        go_loopw [20] (fun i W => ∃ j : Nat, j ≤ len ∧ i = .int .i64 j ∧ TickAt w n s 3 j W) (fun i _ => len - (intOf i).toNat)
        case atStart => exact ⟨0, Nat.zero_le _, rfl, HT.out⟩
        case round =>
          obtain ⟨j, hj, rfl, hT⟩ := hrel
          by_cases hlt : j < len
          · obtain ⟨e, he⟩ : ∃ e, (s.es 3)[j]? = some e := ⟨_, List.getElem?_eq_getElem (by rw [← HL.out]; exact hlt)⟩
            obtain ⟨g, rfl, m1, m2⟩ := hT.mail (by omega) he HV3.out
            obtain ⟨ag1, ag2⟩ := hage.out 3 (by omega) e (List.mem_of_getElem? he)
            obtain ⟨a', c', ev', _, hcc⟩ := hT.cell (k := 3) (by omega)
            rw [HV3.out] at ev'
            cases ev'
            rw [← HL.out] at hcc
            have i1 : (0 : Int) ≤ (j : Int) := by omega
            have i2 : (j : Int) < (len : Int) := by omega
            have HT := Lib.hid hT
            have HE := Lib.hid he
            clear hT he hc3
            generalize hev : e.2 = ev at m1 ag1 ag2
            have HEV := Lib.hid hev
            clear hev
            go_wp2_with fail
            go_roundw
            case rel =>
              refine ⟨j + 1, by omega, by go_num, ?_⟩
              have := TickAt.round HT.out (by omega) HE.out (by rw [← HL.out]; exact (HV3.out.trans (by rw [← HL.out])))
              rw [HEV.out] at this
              exact this
            case measure => simp [intOf]; omega
          · obtain rfl : j = len := by omega
            have HT2 : Hid (TickAt w n s 4 0 wr) := Lib.hid (by
              have q := hT
              unfold TickAt at q ⊢
              rw [HL.out, HN.out] at q
              exact q)
            clear hT hc3
            go_wp2_with fail
            go_roundw
            case rel => exact .inr (.inr ⟨rfl, HT2.out⟩)
            case measure => simp [intOf]
      · have HT := Lib.hid hT
        clear hT
        go_wp2_with fail
        go_roundw
        case rel => exact .inr (.inr ⟨rfl, HT.out⟩)
        case measure => simp [intOf]
    · have HT := Lib.hid hT
      clear hT
      go_wp2_with fail
      go_end0
      exact ⟨rfl, HT.out⟩
end Go.Proofs.Ytmceaffoffemlaa.Netw
