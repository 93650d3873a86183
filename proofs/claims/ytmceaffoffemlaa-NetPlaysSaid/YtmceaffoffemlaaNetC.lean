/-
  net: the net in memory; the walk of Send.
-/
import Derived.Test.YtmceaffoffemlaaNetB
namespace Go.Proofs.Ytmceaffoffemlaa.Netw
open Go.RowKit
set_option linter.all false

/-- A mail on a way: its bytes' slice and its age. -/
abbrev E := Value × Int
def ecs (e : E) : List Value := [e.1, .int .i64 e.2]
structure NS where
  v : Nat → Value
  es : Nat → List E
  full : Int
  long : Int
  moved : Int
def ncs (s : NS) : Array Value := nc (s.v 0) (s.v 1) (s.v 2) (s.v 3) s.full s.long s.moved
structure NAt (W : World) (n : Nat) (s : NS) : Prop where
  box : Blk W n 86 (ncs s)
  way : ∀ k, k < 4 → On W 91 2 (s.v k) (s.es k).length (flat ecs (s.es k))
  ne : ∀ j k g, j < 4 → k < 4 → j ≠ k → (s.v j).ownBlock = some g → (s.v k).ownBlock ≠ some g
def upd {α : Type} (f : Nat → α) (k : Nat) (x : α) : Nat → α := fun j => if j = k then x else f j
section
variable {W W' : World} {n : Nat} {s : NS}
theorem NAt.cell (h : NAt W n s) {k : Nat} (hk : k < 4) : W.cell? ⟨n, k, none⟩ = some (s.v k) := by
  have := h.box.cell k
  rw [this]
  obtain rfl | rfl | rfl | rfl : k = 0 ∨ k = 1 ∨ k = 2 ∨ k = 3 := by omega
  all_goals rfl
theorem NAt.below (h : NAt W n s) (hb : Below W.heap.size W W') : NAt W' n s :=
  ⟨h.box.below hb h.box.lt, fun k hk => (h.way k hk).below hb (fun g hg => (h.way k hk).lt g hg), h.ne⟩
end
/-- What Send leaves. -/
def Sent (w : World) (n : Nat) (s : NS) (k l : Nat) (xs : List Value) (W : World) : Prop :=
  ∃ dv v3, NAt W n { s with v := upd s.v k v3, es := upd s.es k (s.es k ++ [(dv, 0)]) } ∧ On W 5 1 dv l xs ∧ (∀ g, dv.ownBlock = some g → w.heap.size ≤ g) ∧ Touch (fun g => g = n ∨ (s.v k).ownBlock = some g) w W ∧ (∀ g, v3.ownBlock = some g → (s.v k).ownBlock = some g ∨ w.heap.size ≤ g)
theorem send_fin {w w1 w2 : World} {n k l : Nat} {s : NS} {xs : List Value} {dv v3 : Value} (h : NAt w n s) (hk : k < 4) (hb1 : Below w.heap.size w w1) (hown1 : On w1 5 1 dv l xs) (hatd : ∀ g, dv.ownBlock = some g → w.heap.size ≤ g)
    (hg2 : (w1.alloc (.cells #[dv, .int .i64 0] 91)).grownBy w2 (s.v k).ownBlock) (hown2 : On w2 91 2 v3 ((s.es k).length + 1) (flat ecs (s.es k) ++ [dv, .int .i64 0])) (hat2 : v3.ownBlock = (s.v k).ownBlock ∨ v3.ownBlock = some (w1.heap.size + 1)) :
    Sent w n s k l xs (w2.setCell ⟨n, k, none⟩ v3) := by
  have z1 := hb1.size
  have hbx2 := Blk.grown' hg2 ((h.box.below hb1 h.box.lt).alloc _) ((h.way k hk).blk_ne h.box (by decide))
  have h3 : ∀ g, v3.ownBlock = some g → (s.v k).ownBlock = some g ∨ w.heap.size ≤ g := fun g hg => by
    rcases hat2 with e | e
    · exact .inl (e ▸ hg)
    · rw [e] at hg; cases hg; exact .inr (by omega)
  have hd2 : On w2 5 1 dv l xs := by
    refine (hown1.alloc _).grown hg2 ?_
    by_cases c : dv.ownBlock = none
    · exact .inl c
    · refine .inr fun e => ?_
      cases hdb : dv.ownBlock with
      | none => exact c hdb
      | some g =>
        have := hatd g hdb
        have h4 := (h.way k hk).lt g (by rw [← e, hdb])
        omega
  refine ⟨dv, v3, ⟨?_, ?_, ?_⟩, hd2.far (p := ⟨n, k, none⟩) (hd2.blk_ne hbx2 (by decide)) v3, hatd, ?_, h3⟩
  · have := hbx2.set_ k v3
    have e : (ncs s).setIfInBounds k v3 = ncs { s with v := upd s.v k v3, es := upd s.es k (s.es k ++ [(dv, 0)]) } := by
      obtain rfl | rfl | rfl | rfl : k = 0 ∨ k = 1 ∨ k = 2 ∨ k = 3 := by omega
      all_goals rfl
    rw [← e]
    exact this
  · intro j hj
    by_cases hjk : j = k
    · subst hjk
      have e1 : (upd s.es j (s.es j ++ [(dv, 0)])) j = s.es j ++ [(dv, 0)] := by simp [upd]
      have e2 : (upd s.v j v3) j = v3 := by simp [upd]
      show On _ _ 2 ((upd s.v j v3) j) ((upd s.es j (s.es j ++ [(dv, 0)])) j).length (flat ecs ((upd s.es j (s.es j ++ [(dv, 0)])) j))
      rw [e1, e2]
      have := hown2.far (p := ⟨n, j, none⟩) (hown2.blk_ne hbx2 (by decide)) v3
      simpa [flat, ecs] using this
    · have e1 : (upd s.es k (s.es k ++ [(dv, 0)])) j = s.es j := by simp [upd, hjk]
      have e2 : (upd s.v k v3) j = s.v j := by simp [upd, hjk]
      show On _ _ 2 ((upd s.v k v3) j) ((upd s.es k (s.es k ++ [(dv, 0)])) j).length (flat ecs ((upd s.es k (s.es k ++ [(dv, 0)])) j))
      rw [e1, e2]
      have hw := ((h.way j hj).below hb1 (fun g hg => (h.way j hj).lt g hg)).alloc (.cells #[dv, .int .i64 0] 91)
      have hw2 := hw.grown hg2 (by
        cases hb : (s.v j).ownBlock with
        | none => exact .inl rfl
        | some g => exact .inr (fun e => h.ne j k g hj hk hjk hb e.symm))
      exact hw2.far (p := ⟨n, k, none⟩) (hw2.blk_ne hbx2 (by decide)) v3
  · intro i j g hi hj hij hg hg'
    simp only [upd] at hg hg'
    by_cases c1 : i = k
    · rw [if_pos c1] at hg
      rw [if_neg (by omega)] at hg'
      rcases h3 g hg with e | e
      · exact h.ne k j g hk hj (by omega) e hg'
      · have := (h.way j hj).lt g hg'; omega
    · rw [if_neg c1] at hg
      by_cases c2 : j = k
      · rw [if_pos c2] at hg'
        rcases h3 g hg' with e | e
        · exact h.ne i k g hi hk c1 hg e
        · have := (h.way i hi).lt g hg; omega
      · rw [if_neg c2] at hg'
        exact h.ne i j g hi hj hij hg hg'
  · refine Touch.setCell ?_ (.inl (.inl rfl)) _
    refine Touch.grown ((Touch.of_below hb1).alloc _) hg2 (fun g hg => .inl (.inr hg))
theorem mail_info : (Try.prog.info? 91).map (fun i => (i.zero, i.size, i.bytes)) = some (some (.agg #[.slice none 0 0, .int .i64 0]), 2, 32) := by kernel_rfl
theorem byte_info : (Try.prog.info? 5).map (fun i => (i.zero, i.size, i.bytes)) = some (some (.int .u8 0), 1, 1) := by kernel_rfl

set_option maxRecDepth 100000 in
set_option maxHeartbeats 4000000 in
theorem send_ok (w : World) (n d b : Nat) (s : NS) (a : Option Addr) (l c : Nat) (xs : List Value) (h : NAt w n s) (hd : d < 2) (hb : b < 2) (hl : l ≤ 1400) (hxl : xs.length = l) (hx1 : ∀ u ∈ xs, u.oneCell' = true)
    (hsrc : ∀ W, Below w.heap.size w W → Src W a l xs) (hroom : (s.es (2 * d + b)).length < 128) :
    Calls Try.prog 12 #[.pointer (some ⟨n, 0, none⟩), .int .i64 d, .int .i64 b, .slice a l c] w fun e w' => e = .returned (.int .i64 0) ∧ Sent w n s (2 * d + b) l xs w' := by
  have p := Lib.hid (way_in w n d b hd hb)
  obtain ⟨i0, hi0, hz0, hz1, hz2⟩ := info_parts byte_info
  obtain ⟨i1, hi1, hy0, hy1, hy2⟩ := info_parts mail_info
  have hk4 : 2 * d + b < 4 := by omega
  generalize 2 * d + b = k at *
  have hc := h.cell hk4
  have hway := h.way k hk4
  have FIN := Lib.hid (fun (w1 w2 : World) (dv v3 : Value) (q1 : Below w.heap.size w w1) (q2 : On w1 5 1 dv l xs) (q3 : ∀ g, dv.ownBlock = some g → w.heap.size ≤ g) (q4 : (w1.alloc (.cells #[dv, .int .i64 0] 91)).grownBy w2 (s.v k).ownBlock) (q5 : On w2 91 2 v3 ((s.es k).length + 1) (flat ecs (s.es k) ++ [dv, .int .i64 0])) (q6 : v3.ownBlock = (s.v k).ownBlock ∨ v3.ownBlock = some (w1.heap.size + 1)) => send_fin h hk4 q1 q2 q3 q4 q5 q6)
  obtain ⟨a1, c1, e1, hlc1, hcm1⟩ := hway.slice
  rw [e1] at hc hway FIN
  generalize (s.es k).length = m at *
  have r1 : ¬ (1400 : Int) < (l : Int) := by omega
  have r2 : ¬ (128 : Int) ≤ (m : Int) := by omega
  have f1 : On (w.alloc (.cells #[] 5)) 5 1 (.slice (some ⟨w.heap.size, 0, none⟩) 0 0) 0 [] := On.empty _ _ _
  go_enter Try.func12, Try.ntmps12
  go_wp2_with fail
  refine p.out.mono ?_
  rintro e w' ⟨rfl, rfl⟩
  go_upto_region 10 with fail
  have hbx := h.box
  have NK := Lib.hid (show (ncs s)[k]? = some (s.v k) from (hbx.cell k).symm.trans (h.cell hk4))
  have SRC := Lib.hid (hsrc (w.alloc (.cells #[] 5)) ((Below.refl _ w).alloc (Nat.le_refl _) _))
  clear hsrc
  have hx1 := Lib.hid hx1
  have hxl' := Lib.hid (show xs.length = l * 1 by omega)
  have hq1 : 0 + l ≤ maxLen := by simp only [maxLen]; omega
  have hq2 : m + 1 ≤ maxLen := by simp only [maxLen]; omega
  have hnl := hbx.lt
  have hc0 : (w.alloc (.cells #[] 5)).cell? ⟨n, k, none⟩ = some (.slice a1 m c1) := (World.cell?_of_block (a := ⟨n, k, none⟩) (heap_old w _ hnl)).trans hc
  have hne1 : (Value.slice a1 m c1).ownBlock ≠ some n := hway.blk_ne hbx (by decide)
  go_region_law (first
    | (refine step_append_on _ (by rfl) (.tmp 47) (.tmp 48) _ (by rfl) 5 i0 _ 1 1 Try.underlying27 hi0 hz0 hz1 hz2 rfl (by omega) (.slice (some ⟨w.heap.size, 0, none⟩) 0 0) 0 [] (by rfl) (by exact f1) a l c xs (by rfl) (by exact hxl'.out) (by exact SRC.out) (by exact hx1.out) hq1 (by omega) ?_; intro v1 w1 hown1 hg1 hat1; obtain ⟨a2, c2, rfl, hlc2, hcm2⟩ := hown1.slice; have hb1 : Below w.heap.size w w1 := ((Below.refl _ w).alloc (Nat.le_refl _) (.cells #[] 5)).grown (w := _) ⟨hg1.os, hg1.tape, hg1.output, hg1.size, hg1.block⟩ (by simp) (fun g hg => by simp [Value.ownBlock] at hg; omega); have kc : w1.cell? ⟨n, k, none⟩ = some (.slice a1 m c1) := (hb1.cell (p := ⟨n, k, none⟩) hnl).trans hc; have z1 := hb1.size; have kc2 : (w1.alloc (.cells #[.slice a2 l c2, .int .i64 0] 91)).cell? ⟨n, k, none⟩ = some (.slice a1 m c1) := (World.cell?_of_block (a := ⟨n, k, none⟩) (heap_old w1 _ (by show n < _; omega))).trans kc)
    | (refine step_append_on _ (by rfl) (.tmp 46) (.tmp 51) _ (by rfl) 91 i1 _ 2 32 Try.underlying82 hi1 hy0 hy1 hy2 rfl (by omega) (.slice a1 m c1) m (flat ecs (s.es k)) (by rfl) (by exact (hway.below hb1 (fun g hg => hway.lt g hg)).alloc _) _ 1 1 [.slice a2 l c2, .int .i64 0] (by rfl) (by rfl) (by exact src_new _ _ 1 [.slice a2 l c2, .int .i64 0]) (by simp [Value.oneCell']) hq2 (by omega) ?_; intro v2 w2 hown2 hg2 hat2; have hbx2 := Blk.grown' hg2 (by exact (hbx.below hb1 hnl).alloc _) (by exact hne1); have kd := (hbx2.cell k).trans NK.out; have kf := hbx2.frozen k; obtain ⟨a3, c3, rfl, hlc3, hcm3⟩ := hown2.slice))
  all_goals
    go_wp2_with fail
    go_ret
    simp only [Nat.zero_add, List.nil_append] at hown1
    refine ⟨rfl, FIN.out w1 w2 _ _ hb1 hown1 (fun g hg => ?_) ⟨hg2.os, hg2.tape, hg2.output, hg2.size, hg2.block⟩ hown2 (by simpa using hat2)⟩
    rcases hat1 with e | e <;> rw [Nat.zero_add] at e <;> rw [hg] at e <;> simp [Value.ownBlock] at e <;> omega
end Go.Proofs.Ytmceaffoffemlaa.Netw
