/-
  The walks of package ring at element type int64: what each method does to a ring in memory. Conditions: the ring lies whole in its block, its list at a block's head.
-/
import Derived.Test.YtmceaffoffemlaaKit
import Derived.Test.YtmceaffoffemlaaProg
namespace Go.Proofs.Ytmceaffoffemlaa.RingI64
open Go.RowKit

theorem info : (Try.prog.info? 2).map (fun i => (i.zero, i.size, i.bytes)) = some (some (.int .i64 0), 1, 8) := by kernel_rfl

/-- A ring in memory: its block, and its list. -/
def At (w : World) (r : Nat) (room first : Int) (sv : Value) (l : List Int) : Prop :=
  Blk w r 133 #[.int .i64 room, .int .i64 first, sv] ∧ On w 2 1 sv l.length (l.map (Value.int .i64))
def fp (r : Nat) (sv : Value) : Nat → Prop := fun k => k = r ∨ sv.ownBlock = some k
section
variable {S : Nat → Prop} {w w' : World} {r : Nat} {room first : Int} {sv : Value} {l : List Int}
theorem At.lt (h : At w r room first sv l) : ∀ k, fp r sv k → k < w.heap.size := fun k hk => hk.elim (fun e => e ▸ h.1.lt) (fun e => h.2.lt k e)
theorem At.ne_ (h : At w r room first sv l) : sv.ownBlock ≠ some r := h.2.blk_ne h.1 (by decide)
theorem At.drewN (h : At w r room first sv l) (n : Nat) : At (w.drewN n) r room first sv l := h
theorem At.drew (h : At w r room first sv l) : At w.drew r room first sv l := h
theorem At.alloc (h : At w r room first sv l) (o : Obj) : At (w.alloc o) r room first sv l := ⟨h.1.alloc o, h.2.alloc o⟩
theorem At.heap_eq (h : At w r room first sv l) (hW : w'.heap = w.heap) : At w' r room first sv l := ⟨h.1.heap_eq hW, h.2.heap_eq hW⟩
theorem At.touch (h : At w r room first sv l) (ht : Touch S w w') (hS : ∀ k, fp r sv k → ¬ S k) : At w' r room first sv l := ⟨h.1.touch ht (hS r (.inl rfl)), h.2.touch ht fun g hg => hS g (.inr hg)⟩
theorem At.cells (h : At w r room first sv l) : (w.cell? ⟨r, 0, none⟩ = some (.int .i64 room) ∧ w.cell? ⟨r, 1, none⟩ = some (.int .i64 first) ∧ w.cell? ⟨r, 2, none⟩ = some sv) ∧
    (w.frozen? ⟨r, 0, none⟩ = false ∧ w.frozen? ⟨r, 1, none⟩ = false ∧ w.frozen? ⟨r, 2, none⟩ = false) :=
  ⟨⟨h.1.cell 0, h.1.cell 1, h.1.cell 2⟩, h.1.frozen 0, h.1.frozen 1, h.1.frozen 2⟩
theorem At.slc (h : At w r room first sv l) : ∃ a c, sv = .slice a l.length c ∧ l.length ≤ c ∧ c ≤ maxLen ∧ (0 < l.length → ∃ g, a = some ⟨g, 0, none⟩ ∧ g ≠ r ∧ ∀ j, j < l.length → w.cell? ⟨g, j, none⟩ = some (.int .i64 (nth l j)) ∧ w.frozen? ⟨g, j, none⟩ = false) := by
  have hne := h.ne_
  rcases h.2.form with ⟨rfl, h0, _⟩ | ⟨g, cap, hv, hnc, hcm, hown, hlt, hc, hf⟩
  · exact ⟨none, 0, by rw [h0], by omega, by simp [maxLen], fun hp => by omega⟩
  · refine ⟨_, cap, hv, hnc, hcm, fun _ => ⟨g, rfl, fun e => hne (by rw [hown, e]), fun j hj => ⟨?_, hf j⟩⟩⟩
    rw [hc j (.int .i64 (nth l j))]
    simp [nth, List.getD, hj]
end

set_option maxHeartbeats 400000 in
theorem room_any (w : World) (r : Nat) (room first : Int) (sv : Value) (l : List Int) (h : At w r room first sv l) :
    Calls Try.prog 69 #[.pointer (some ⟨r, 0, none⟩)] w fun e w' => e = .returned (.int .i64 room) ∧ w = w' := by
  obtain ⟨⟨c0, c1, c2⟩, f0, f1, f2⟩ := h.cells
  go_enter Try.func69, Try.ntmps69
  go_wp2
  go_ret
  exact ⟨rfl, rfl⟩

set_option maxHeartbeats 400000 in
theorem first_any (w : World) (r : Nat) (room first : Int) (sv : Value) (l : List Int) (h : At w r room first sv l) :
    Calls Try.prog 71 #[.pointer (some ⟨r, 0, none⟩)] w fun e w' => e = .returned (.int .i64 first) ∧ w = w' := by
  obtain ⟨⟨c0, c1, c2⟩, f0, f1, f2⟩ := h.cells
  go_enter Try.func71, Try.ntmps71
  go_wp2
  go_ret
  exact ⟨rfl, rfl⟩

set_option maxHeartbeats 400000 in
theorem len_any (w : World) (r : Nat) (room first : Int) (sv : Value) (l : List Int) (h : At w r room first sv l) :
    Calls Try.prog 68 #[.pointer (some ⟨r, 0, none⟩)] w fun e w' => e = .returned (.int .i64 l.length) ∧ w = w' := by
  obtain ⟨⟨c0, c1, c2⟩, f0, f1, f2⟩ := h.cells
  obtain ⟨a, c, rfl, hlc, hcm, hsv⟩ := h.slc
  go_enter Try.func68, Try.ntmps68
  go_wp2
  go_ret
  exact ⟨rfl, rfl⟩

set_option maxHeartbeats 400000 in
theorem next_any (w : World) (r : Nat) (room first : Int) (sv : Value) (l : List Int) (h : At w r room first sv l) (h0 : 0 ≤ first) (h1 : first + l.length ≤ 4611686018427387904) :
    Calls Try.prog 85 #[.pointer (some ⟨r, 0, none⟩)] w fun e w' => e = .returned (.int .i64 (first + l.length)) ∧ ∃ n, w' = w.drewN n := by
  obtain ⟨⟨c0, c1, c2⟩, f0, f1, f2⟩ := h.cells
  obtain ⟨a, c, rfl, hlc, hcm, hsv⟩ := h.slc
  go_enter Try.func85, Try.ntmps85
  go_wp2
  go_quiet (fail)
  go_wp2
  go_ret
  exact ⟨rfl, nq, rfl⟩

/-- Where an entry stands. -/
def placeB (first : Int) (len : Nat) (n : Int) : Int := if n < first then -1 else if n - first ≥ len then -1 else n - first

set_option maxHeartbeats 400000 in
theorem place_any (w : World) (r : Nat) (room first n : Int) (sv : Value) (l : List Int) (h : At w r room first sv l) (h0 : 0 ≤ first) (hn : n ≤ 9223372036854775807) :
    Calls Try.prog 84 #[.pointer (some ⟨r, 0, none⟩), .int .i64 n] w fun e w' => e = .returned (.int .i64 (placeB first l.length n)) ∧ ∃ n, w' = w.drewN n := by
  obtain ⟨⟨c0, c1, c2⟩, f0, f1, f2⟩ := h.cells
  obtain ⟨a, c, rfl, hlc, hcm, hsv⟩ := h.slc
  by_cases c0 : n < first
  · have d0 : decide (n < first) = true := by simp [c0]
    have e : placeB first l.length n = -1 := by simp [placeB, c0]
    have E := Lib.hid e
    clear e
    go_enter Try.func84, Try.ntmps84
    go_wp2_with fail
    go_quiet (fail)
    go_wp2
    go_ret
    exact ⟨ret_int E.out.symm, nq, rfl⟩
  · have d0 : decide (n < first) = false := by simp [c0]
    by_cases c1 : (l.length : Int) ≤ n - first
    · have e : placeB first l.length n = -1 := by simp [placeB, c0, c1]
      have E := Lib.hid e
      clear e
      go_enter Try.func84, Try.ntmps84
      go_wp2_with fail
      go_quiet (fail)
      go_wp2
      go_ret
      exact ⟨ret_int E.out.symm, nq, rfl⟩
    · have e : placeB first l.length n = n - first := by simp [placeB, c0, c1]
      have E := Lib.hid e
      clear e
      go_enter Try.func84, Try.ntmps84
      go_wp2_with fail
      go_quiet (fail)
      go_wp2
      go_ret
      exact ⟨ret_int E.out.symm, nq, rfl⟩

/-- What At answers. -/
def atV (first : Int) (l : List Int) (n : Int) : Int := if n < first then 0 else if n - first ≥ l.length then 0 else nth l (n - first).toNat
def atE (first : Int) (len : Nat) (n : Int) : Int := if n < first then 90 else if n - first ≥ len then 91 else 0

set_option maxHeartbeats 1000000 in
theorem at_any (w : World) (r : Nat) (room first n : Int) (sv : Value) (l : List Int) (h : At w r room first sv l) (h0 : 0 ≤ first) (hn : n ≤ 9223372036854775807) :
    Calls Try.prog 70 #[.pointer (some ⟨r, 0, none⟩), .int .i64 n] w fun e w' => e = .returned (.tuple #[.int .i64 (atV first l n), .int .i64 (atE first l.length n)]) ∧ ∃ n, w' = w.drewN n := by
  obtain ⟨⟨c0, c1, c2⟩, f0, f1, f2⟩ := h.cells
  obtain ⟨a, c, rfl, hlc, hcm, hsv⟩ := h.slc
  unfold maxLen at hcm
  by_cases b0 : n < first
  · have e1 := Lib.hid (show atV first l n = 0 by simp [atV, b0])
    have e2 := Lib.hid (show atE first l.length n = 90 by simp [atE, b0])
    have e3 : placeB first l.length n = -1 := by simp [placeB, b0]
    have hp0 := place_any w r room first n _ l h h0 hn
    rw [e3] at hp0
    have hp := Lib.hid hp0
    clear e3 hp0
    go_enter Try.func70, Try.ntmps70
    go_wp2_with fail
    refine hp.out.mono ?_
    rintro e w' ⟨rfl, nq, rfl⟩
    go_wp2_with fail
    refine bodyPost_ret (results_tmp2 rfl _ _ _) rfl ⟨?_, nq, rfl⟩
    rw [e1.out, e2.out]
    rfl
  · by_cases b1 : (l.length : Int) ≤ n - first
    · have e1 := Lib.hid (show atV first l n = 0 by rw [atV, if_neg b0, if_pos b1])
      have e2 := Lib.hid (show atE first l.length n = 91 by rw [atE, if_neg b0, if_pos b1])
      have e3 : placeB first l.length n = -1 := by rw [placeB, if_neg b0, if_pos b1]
      have hp0 := place_any w r room first n _ l h h0 hn
      rw [e3] at hp0
      have hp := Lib.hid hp0
      clear e3 hp0
      go_enter Try.func70, Try.ntmps70
      go_wp2_with fail
      refine hp.out.mono ?_
      rintro e w' ⟨rfl, nq, rfl⟩
      go_wp2_with fail
      refine bodyPost_ret (results_tmp2 rfl _ _ _) rfl ⟨?_, nq, rfl⟩
      rw [e1.out, e2.out]
      rfl
    · obtain ⟨j, hj⟩ : ∃ j : Nat, n - first = (j : Int) := ⟨(n - first).toNat, by omega⟩
      have hjl : j < l.length := by omega
      obtain ⟨g, rfl, hgr, hc⟩ := hsv (by omega)
      obtain ⟨hcj, hfj⟩ := hc j hjl
      clear hc hfj
      have e1 := Lib.hid (show atV first l n = nth l j by rw [atV, if_neg b0, if_neg (by omega), hj, Int.toNat_natCast])
      have e2 := Lib.hid (show atE first l.length n = 0 by rw [atE, if_neg b0, if_neg b1])
      have e3 : placeB first l.length n = (j : Int) := by rw [placeB, if_neg b0, if_neg b1, hj]
      have hp0 := place_any w r room first n _ l h h0 hn
      rw [e3] at hp0
      have hp := Lib.hid hp0
      clear e3 hj hp0
      go_enter Try.func70, Try.ntmps70
      go_wp2_with fail
      refine hp.out.mono ?_
      rintro e w' ⟨rfl, nq, rfl⟩
      go_wp2_with fail
      refine bodyPost_ret (results_tmp2 rfl _ _ _) rfl ⟨?_, nq, rfl⟩
      rw [e1.out, e2.out]
      rfl

set_option maxHeartbeats 400000 in
theorem new_ok (n : Int) (w : World) (h : 1 ≤ n) (h2 : n ≤ 4096) :
    Calls Try.prog 67 #[.int .i64 n] w fun e w' => e = .returned (.tuple #[.pointer (some ⟨w.heap.size, 0, none⟩), .int .i64 0]) ∧ w.alloc (.cells #[.int .i64 n, .int .i64 0, .slice none 0 0] 133) = w' := by
  go_enter Try.func67, Try.ntmps67
  go_wp2
  go_ret2
  exact ⟨rfl, rfl⟩

theorem at_new (w : World) (n : Int) : At (w.alloc (.cells #[.int .i64 n, .int .i64 0, .slice none 0 0] 133)) w.heap.size n 0 (.slice none 0 0) [] := ⟨Blk.new _ _ _, On.nil _ _ _⟩

set_option maxHeartbeats 400000 in
theorem new_no (n : Int) (w : World) (h : n < 1 ∨ 4096 < n) :
    Calls Try.prog 67 #[.int .i64 n] w fun e w' => e = .returned (.tuple #[.pointer none, .int .i64 1]) ∧ w = w' := by
  rcases h with h | h
  · go_enter Try.func67, Try.ntmps67
    go_wp2
    go_ret2
    exact ⟨rfl, rfl⟩
  · have h' : ¬ n < 1 := by omega
    go_enter Try.func67, Try.ntmps67
    go_wp2
    go_ret2
    exact ⟨rfl, rfl⟩

end Go.Proofs.Ytmceaffoffemlaa.RingI64
