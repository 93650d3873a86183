/-
  The walks of backstayref21: New, copied, Think, Drop. Conditions: numbers and lengths without overflow.
-/
import Derived.Test.YthdppaohagghbaaRingInput
import Derived.Test.YthdppaohagghbaaRingInputC
import Derived.Lib.QuietBelow
namespace Go.Proofs.Ythdppaohagghbaa.Ref21
open Go.RowKit
set_option linter.all false

/-- The value of a queue of the document. -/
def qv (k u : Value) (fk fu last wrong : Int) : Value := .agg #[k, u, .int .i64 fk, .int .i64 fu, .int .u16 last, .int .i64 wrong]
/-- A list of inputs at a slice. -/
def L (w : World) (v : Value) (l : List Int) : Prop := On w 30 1 v l.length (l.map (.int .u16))
/-- A slice of inputs in memory of its own, laid since w. -/
def Fresh (w w' : World) (sv : Value) (l : List Int) : Prop := L w' sv l ∧ Below w.heap.size w w' ∧ ∀ k, sv.ownBlock = some k → w.heap.size ≤ k
theorem L.below {w w' : World} {v : Value} {l : List Int} (h : L w v l) (hb : Below w.heap.size w w') : L w' v l := On.below h hb (On.lt h)
theorem L.slice {w : World} {v : Value} {l : List Int} (h : L w v l) : ∃ a c, v = .slice a l.length c ∧ l.length ≤ c ∧ c ≤ maxLen := On.slice h
theorem L.ints {w : World} {v : Value} {l : List Int} (h : L w v l) (hl : 0 < l.length) :
    ∃ g cap, v = .slice (some ⟨g, 0, none⟩) l.length cap ∧ ∀ j, j < l.length → w.cell? ⟨g, j, none⟩ = some (.int .u16 (nth l j)) := by
  rcases On.form h with ⟨_, e, _⟩ | ⟨g, cap, rfl, _, _, _, _, hc, _⟩
  · omega
  · exact ⟨g, cap, rfl, fun j hj => hc j (.int .u16 (nth l j)) (by simp [nth, List.getD, hj])⟩

set_option maxRecDepth 100000 in
set_option maxHeartbeats 4000000 in
theorem copied_any (w : World) (a : Option Addr) (c : Nat) (l : List Int) (h : L w (.slice a l.length c) l) (hl : l.length ≤ 1000000) :
    Calls Try.prog 163 #[.slice a l.length c] w fun e w' => ∃ sv, e = .returned sv ∧ Fresh w w' sv l := by
  obtain ⟨i0, hi0, hz0, hz1, hz2⟩ := info_parts RingInput.info
  have hown := On.empty w 30 1
  have hsrc := Lib.hid ((On.alloc h (.cells #[] 30)).src)
  go_enter Try.func163, Try.ntmps163
  go_wp2_with (at_builtin; refine wpList_append_on _ rfl (.tmp 3) (.tmp 4) _ rfl 30 i0 _ 1 2 Try.underlying22 hi0 hz0 hz1 hz2 rfl (by omega) (.slice (some ⟨w.heap.size, 0, none⟩) 0 0) 0 [] rfl hown a l.length c (l.map (Value.int .u16)) rfl (by simp) hsrc.out (one_map _ _) (by simp only [maxLen]; omega) (by omega) ?_; intro v' w1 hown1 hg1 hat1; obtain ⟨a', c', rfl, hlc', hcm'⟩ := hown1.slice; clear hown)
  go_ret
  simp only [Nat.zero_add, List.nil_append] at hown1 hat1
  refine ⟨.slice a' l.length c', rfl, hown1, ?_, fun k hk => ?_⟩
  · exact ((Below.refl _ w).alloc (Nat.le_refl _) _).grown hg1 (by simp) (fun k hk => by simp [Value.ownBlock] at hk; omega)
  · rcases hat1 with e | e <;> rw [e] at hk <;> simp [Value.ownBlock] at hk <;> omega

/-- What is thought of a frame. -/
def thinkV (K : List Int) (fk last n : Int) : Int := if n < fk then 0 else if n < (K.length : Int) then nth K n.toNat else last
def thinkK (K : List Int) (fk n : Int) : Bool := decide (fk ≤ n) && decide (n < (K.length : Int))
def thinkE (fk n : Int) : Int := if n < fk then 90 else 0

set_option maxRecDepth 100000 in
set_option maxHeartbeats 4000000 in
theorem think_any (w : World) (a : Option Addr) (c : Nat) (u : Value) (K : List Int) (fk fu last wrong n : Int) (hK : L w (.slice a K.length c) K) (h0 : 0 ≤ fk) (hu : ∃ au nu cu, u = .slice au nu cu) :
    Calls Try.prog 22 #[qv (.slice a K.length c) u fk fu last wrong, .int .i64 n] w fun e w' => e = .returned (.tuple #[.int .u16 (thinkV K fk last n), .bool (thinkK K fk n), .int .i64 (thinkE fk n)]) ∧ Below w.heap.size w w' := by
  obtain ⟨au, nu, cu, rfl⟩ := hu
  unfold qv
  by_cases c1 : n < fk
  · rw [thinkV, thinkK, thinkE, if_pos c1, if_pos c1, decide_eq_false (by omega)]
    go_enter Try.func22, Try.ntmps22
    go_wp2_with fail
    refine bodyPost_ret (v := .tuple #[.int .u16 0, .bool false, .int .i64 90]) (by simp [results, Try.results22, go_sem]) rfl ⟨rfl, ?_⟩
    exact (Below.refl _ w).alloc (Nat.le_refl _) _
  · by_cases c2 : n < (K.length : Int)
    · rw [thinkV, thinkK, thinkE, if_neg c1, if_neg c1, if_pos c2, decide_eq_true (by omega), decide_eq_true c2]
      obtain ⟨j, rfl⟩ : ∃ j : Nat, n = (j : Int) := ⟨n.toNat, by omega⟩
      obtain ⟨g, cap, e1, hg⟩ := hK.ints (by omega)
      cases e1
      have hgl := On.lt hK g rfl
      have hcj := hg j (by omega)
      have hc1 : (w.alloc (.cells #[.slice (some ⟨g, 0, none⟩) K.length c, .slice au nu cu, .int .i64 fk, .int .i64 fu, .int .u16 last, .int .i64 wrong] 37)).cell? ⟨g, j, none⟩ = some (.int .u16 (nth K j)) := (World.cell?_of_block (a := ⟨g, j, none⟩) (heap_old w _ hgl)).trans hcj
      have hj0 : (0 : Int) ≤ (j : Int) := by omega
      clear hg
      rw [show ((j : Int)).toNat = j by omega]
      go_enter Try.func22, Try.ntmps22
      go_wp2_with fail
      refine bodyPost_ret (v := .tuple #[.int .u16 (nth K j), .bool true, .int .i64 0]) (by simp [results, Try.results22, go_sem]) rfl ⟨rfl, ?_⟩
      exact (Below.refl _ w).alloc (Nat.le_refl _) _
    · rw [thinkV, thinkK, thinkE, if_neg c1, if_neg c1, if_neg c2, decide_eq_true (by omega), decide_eq_false c2]
      go_enter Try.func22, Try.ntmps22
      go_wp2_with fail
      refine bodyPost_ret (v := .tuple #[.int .u16 last, .bool false, .int .i64 0]) (by simp [results, Try.results22, go_sem]) rfl ⟨rfl, ?_⟩
      exact (Below.refl _ w).alloc (Nat.le_refl _) _
end Go.Proofs.Ythdppaohagghbaa.Ref21
