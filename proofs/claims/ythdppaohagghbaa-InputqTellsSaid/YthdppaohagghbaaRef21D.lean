/-
  The walk of backstayref21.New. Condition: a delay that may be.
-/
import Derived.Test.YthdppaohagghbaaRef21C
import Derived.OwnWalk
namespace Go.Proofs.Ythdppaohagghbaa.Ref21
open Go.RowKit
set_option linter.all false

theorem on_of_owns {w : World} {base : Nat} {e : TypeId} {size : Nat} {v : Value} {n : Nat} {xs : List Value} (h : w.ownsRow base e size v n xs) : On w e size v n xs := by
  refine ⟨h.1, ?_⟩
  rcases h.2 with h0 | ⟨g, cap, cur, h1, _, h2, h3, h4, h5, h6⟩
  · exact .inl h0
  · exact .inr ⟨g, cap, cur, h1, h2, h3, h4, by omega, h6⟩

set_option maxRecDepth 100000 in
set_option maxHeartbeats 600000 in
theorem new_any (w : World) (d : Nat) (hd : d ≤ 8) :
    Calls Try.prog 79 #[.int .i64 d] w fun e w' => RTo w (.slice none 0 0) (.slice none 0 0) { K := List.replicate d 0, U := [], fk := 0, fu := 0, last := 0, wrong := -1 } id e w' := by
  have hd1 : (0 : Int) ≤ (d : Int) := by omega
  have hd2 : (d : Int) ≤ 8 := by omega
  go_enter Try.func79, Try.ntmps79
  obtain ⟨i0, hi0, hz0, hz1, hz2⟩ := info_parts RingInput.info
  have hres : Blk (w.alloc (.cells #[.slice none 0 0, .slice none 0 0, .int .i64 0, .int .i64 0, .int .u16 0, .int .i64 0] 37)) w.heap.size 37 #[.slice none 0 0, .slice none 0 0, .int .i64 0, .int .i64 0, .int .u16 0, .int .i64 0] := Blk.new _ _ _
  go_wp2_with (at_make; refine wpList_make_full _ rfl _ _ 22 rfl 0 30 i0 _ 1 Try.underlying22 hi0 hz0 hz1 _ _ _ _ d rfl rfl rfl rfl (by rw [hz2]; omega) (by simp only [maxLen]; omega) (Nat.zero_le _) ?_; intro W1 hown1 hg1; have hr1 := hres.grown hg1 (by simp); have g0 := hr1.cell 0; have g1 := hr1.cell 1; have g2 := hr1.cell 2; have g3 := hr1.cell 3; have g4 := hr1.cell 4; have g5 := hr1.cell 5; have e0 := hr1.frozen 0; have e1 := hr1.frozen 1; have e2 := hr1.frozen 2; have e3 := hr1.frozen 3; have e4 := hr1.frozen 4; have e5 := hr1.frozen 5)
  refine bodyPost_ret (v := id (rval (.slice (some ⟨w.heap.size + 1, 0, none⟩) d d) (.slice none 0 0) { K := List.replicate d 0, U := [], fk := 0, fu := 0, last := 0, wrong := -1 })) (by simp [results, rval, qv, Try.results79, go_sem, g0, g1, g2, g3, g4, g5]) rfl ?_
  have hl : L W1 (.slice (some ⟨w.heap.size + 1, 0, none⟩) d d) (List.replicate d 0) := by
    have := on_of_owns hown1
    have em : (madeCells (Value.int .u16 0).cells (d * 1)).toList = List.replicate d (Value.int .u16 0) := by
      refine List.eq_replicate_iff.2 ⟨by simp [madeCells], fun b hb => ?_⟩
      simp only [madeCells, Array.toList_map, List.mem_map] at hb
      obtain ⟨y, _, rfl⟩ := hb
      simp [Value.cells, Nat.mod_one]
    rw [em] at this
    unfold L
    simpa using this
  have hT : ∀ W, Touch (fun k => k = w.heap.size) W1 W → RTo w (.slice none 0 0) (.slice none 0 0) { K := List.replicate d 0, U := [], fk := 0, fu := 0, last := 0, wrong := -1 } id (.returned (id (rval (.slice (some ⟨w.heap.size + 1, 0, none⟩) d d) (.slice none 0 0) { K := List.replicate d 0, U := [], fk := 0, fu := 0, last := 0, wrong := -1 }))) W := by
    intro W hT
    have hB1 : Below w.heap.size w W1 := ((Below.refl _ w).alloc (Nat.le_refl _) _).grown hg1 (by simp) (fun k hk => by cases hk)
    exact ⟨_, _, rfl, ⟨On.touch hl hT (fun g hg e => by simp [Value.ownBlock] at hg; omega), On.nil _ _ _⟩, hB1.trans (hT.below hB1.size (fun k hk => by omega)), fun g hg => .inr (by simp [Value.ownBlock] at hg; omega), fun g hg => by simp [Value.ownBlock] at hg⟩
  refine hT _ ?_
  clear hT hl
  repeat (refine Touch.setCell ?_ (Or.inl (by simp)) _)
  exact Touch.refl _ _
end Go.Proofs.Ythdppaohagghbaa.Ref21
