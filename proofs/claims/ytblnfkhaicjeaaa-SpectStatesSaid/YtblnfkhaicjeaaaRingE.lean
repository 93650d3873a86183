/-
  The walks of package ring at element type saved.entry (a state and its sum, 67 cells): what each method does to a ring in memory. Conditions: the ring lies whole in its block, its list at a block's head.
-/
import Derived.Test.YtblnfkhaicjeaaaFlat
import Derived.Test.YtblnfkhaicjeaaaStoreR
import Derived.Test.YtblnfkhaicjeaaaGsums
namespace Go.Proofs.Ytblnfkhaicjeaaa.RingE
open Go.RowKit Go.Sort Go.Proofs.Ytblnfkhaicjeaaa.Gm
set_option linter.all false

abbrev NT := F × Int
def cs (x : NT) : List Value := (stA x.1).toList ++ [.int .u32 x.2]
theorem cs_len : ∀ x, (cs x).length = 67 := fun x => by simp [cs, stA]
theorem cs_one : ∀ x, ∀ u ∈ cs x, u.oneCell' = true := by
  intro x u hu
  rcases List.mem_append.1 hu with h | h
  · exact (Array.all_eq_true_iff_forall_mem.1 (stA_one x.1)) u (by simpa using h)
  · obtain rfl := List.mem_singleton.1 h
    rfl
theorem info : (Try.prog.info? 149).map (fun i => (i.zero, i.size, i.bytes)) = some (some (.agg Try.zeroCells149), 67, 536) := by kernel_rfl
theorem infoE : (Try.prog.info? 149).map (·.size) = some 67 := by kernel_rfl

/-- A ring in memory: its block, and its list. -/
def At (w : World) (r : Nat) (room first : Int) (sv : Value) (l : List NT) : Prop :=
  Blk w r 188 #[.int .i64 room, .int .i64 first, sv] ∧ On w 149 67 sv l.length (flat cs l)
def fp (r : Nat) (sv : Value) : Nat → Prop := fun k => k = r ∨ sv.ownBlock = some k
section
variable {S : Nat → Prop} {w w' : World} {r : Nat} {room first : Int} {sv : Value} {l : List NT}
theorem At.lt (h : At w r room first sv l) : ∀ k, fp r sv k → k < w.heap.size := fun k hk => hk.elim (fun e => e ▸ h.1.lt) (fun e => h.2.lt k e)
theorem At.ne_ (h : At w r room first sv l) : sv.ownBlock ≠ some r := h.2.blk_ne h.1 (by decide)
theorem At.drewN (h : At w r room first sv l) (n : Nat) : At (w.drewN n) r room first sv l := h
theorem At.drew (h : At w r room first sv l) : At w.drew r room first sv l := h
theorem At.alloc (h : At w r room first sv l) (o : Obj) : At (w.alloc o) r room first sv l := ⟨h.1.alloc o, h.2.alloc o⟩
theorem At.heap_eq (h : At w r room first sv l) (hW : w'.heap = w.heap) : At w' r room first sv l := ⟨h.1.heap_eq hW, h.2.heap_eq hW⟩
theorem At.touch (h : At w r room first sv l) (ht : Touch S w w') (hS : ∀ k, fp r sv k → ¬ S k) : At w' r room first sv l := ⟨h.1.touch ht (hS r (.inl rfl)), h.2.touch ht fun g hg => hS g (.inr hg)⟩
theorem At.below (h : At w r room first sv l) (hb : Below w.heap.size w w') : At w' r room first sv l := ⟨h.1.below hb h.1.lt, h.2.below hb h.2.lt⟩
theorem At.cells (h : At w r room first sv l) : (w.cell? ⟨r, 0, none⟩ = some (.int .i64 room) ∧ w.cell? ⟨r, 1, none⟩ = some (.int .i64 first) ∧ w.cell? ⟨r, 2, none⟩ = some sv) ∧
    (w.frozen? ⟨r, 0, none⟩ = false ∧ w.frozen? ⟨r, 1, none⟩ = false ∧ w.frozen? ⟨r, 2, none⟩ = false) :=
  ⟨⟨h.1.cell 0, h.1.cell 1, h.1.cell 2⟩, h.1.frozen 0, h.1.frozen 1, h.1.frozen 2⟩
theorem At.slc (h : At w r room first sv l) : ∃ a c, sv = .slice a l.length c ∧ l.length ≤ c ∧ c ≤ maxLen ∧ (0 < l.length → ∃ g, a = some ⟨g, 0, none⟩ ∧ g ≠ r ∧ ∀ j x, l[j]? = some x → w.rangeAt g (j * 67) (cs x)) := by
  have hne := h.ne_
  rcases h.2.form with ⟨rfl, h0, _⟩ | ⟨g, cap, hv, hnc, hcm, hown, hlt, hc, hf⟩
  · exact ⟨none, 0, by rw [h0], by omega, by simp [maxLen], fun hp => by omega⟩
  · refine ⟨_, cap, hv, hnc, hcm, fun _ => ⟨g, rfl, fun e => hne (by rw [hown, e]), fun j x hx i v hi => ?_⟩⟩
    have hil : i < 67 := by
      have := (List.getElem?_eq_some_iff.1 hi).1
      rwa [cs_len] at this
    exact hc (j * 67 + i) _ (by rw [flat_get cs_len l hx hil]; exact hi)
end
set_option maxHeartbeats 400000 in
theorem first_any (w : World) (r : Nat) (room first : Int) (sv : Value) (l : List NT) (h : At w r room first sv l) :
    Calls Try.prog 118 #[.pointer (some ⟨r, 0, none⟩)] w fun e w' => e = .returned (.int .i64 first) ∧ w = w' := by
  obtain ⟨⟨c0, c1, c2⟩, f0, f1, f2⟩ := h.cells
  go_enter Try.func118, Try.ntmps118
  go_wp2
  go_ret
  exact ⟨rfl, rfl⟩

set_option maxHeartbeats 400000 in
theorem len_any (w : World) (r : Nat) (room first : Int) (sv : Value) (l : List NT) (h : At w r room first sv l) :
    Calls Try.prog 115 #[.pointer (some ⟨r, 0, none⟩)] w fun e w' => e = .returned (.int .i64 l.length) ∧ w = w' := by
  obtain ⟨⟨c0, c1, c2⟩, f0, f1, f2⟩ := h.cells
  obtain ⟨a, c, rfl, hlc, hcm, hsv⟩ := h.slc
  go_enter Try.func115, Try.ntmps115
  go_wp2
  go_ret
  exact ⟨rfl, rfl⟩

set_option maxHeartbeats 400000 in
theorem next_any (w : World) (r : Nat) (room first : Int) (sv : Value) (l : List NT) (h : At w r room first sv l) (h0 : 0 ≤ first) (h1 : first + l.length ≤ 4611686018427387904) :
    Calls Try.prog 116 #[.pointer (some ⟨r, 0, none⟩)] w fun e w' => e = .returned (.int .i64 (first + l.length)) ∧ ∃ n, w' = w.drewN n := by
  obtain ⟨⟨c0, c1, c2⟩, f0, f1, f2⟩ := h.cells
  obtain ⟨a, c, rfl, hlc, hcm, hsv⟩ := h.slc
  go_enter Try.func116, Try.ntmps116
  go_wp2
  go_quiet (fail)
  go_wp2
  go_ret
  exact ⟨rfl, nq, rfl⟩

/-- Where an entry stands. -/
def placeB (first : Int) (len : Nat) (n : Int) : Int := if n < first then -1 else if n - first ≥ len then -1 else n - first

set_option maxHeartbeats 400000 in
theorem place_any (w : World) (r : Nat) (room first n : Int) (sv : Value) (l : List NT) (h : At w r room first sv l) (h0 : 0 ≤ first) (hn : n ≤ 9223372036854775807) :
    Calls Try.prog 124 #[.pointer (some ⟨r, 0, none⟩), .int .i64 n] w fun e w' => e = .returned (.int .i64 (placeB first l.length n)) ∧ ∃ n, w' = w.drewN n := by
  obtain ⟨⟨c0, c1, c2⟩, f0, f1, f2⟩ := h.cells
  obtain ⟨a, c, rfl, hlc, hcm, hsv⟩ := h.slc
  by_cases c0 : n < first
  · have d0 : decide (n < first) = true := by simp [c0]
    have e : placeB first l.length n = -1 := by simp [placeB, c0]
    have E := Lib.hid e
    clear e
    go_enter Try.func124, Try.ntmps124
    go_wp2_with fail
    go_quiet (fail)
    go_wp2
    go_ret
    exact ⟨ret_int E.out.symm, nq, rfl⟩
  · have d0 : decide (n < first) = false := by simp [c0]
    by_cases c1 : (l.length : Int) ≤ n - first
    · have e : placeB first l.length n = -1 := by simp [placeB, c0, c1]
      have E := Lib.hid e
      clear e
      go_enter Try.func124, Try.ntmps124
      go_wp2_with fail
      go_quiet (fail)
      go_wp2
      go_ret
      exact ⟨ret_int E.out.symm, nq, rfl⟩
    · have e : placeB first l.length n = n - first := by simp [placeB, c0, c1]
      have E := Lib.hid e
      clear e
      go_enter Try.func124, Try.ntmps124
      go_wp2_with fail
      go_quiet (fail)
      go_wp2
      go_ret
      exact ⟨ret_int E.out.symm, nq, rfl⟩

set_option maxHeartbeats 400000 in
theorem new_ok (n : Int) (w : World) (h : 1 ≤ n) (h2 : n ≤ 4096) :
    Calls Try.prog 114 #[.int .i64 n] w fun e w' => e = .returned (.tuple #[.pointer (some ⟨w.heap.size, 0, none⟩), .int .i64 0]) ∧ w.alloc (.cells #[.int .i64 n, .int .i64 0, .slice none 0 0] 188) = w' := by
  go_enter Try.func114, Try.ntmps114
  go_wp2
  go_ret2
  exact ⟨rfl, rfl⟩

theorem at_new (w : World) (n : Int) : At (w.alloc (.cells #[.int .i64 n, .int .i64 0, .slice none 0 0] 188)) w.heap.size n 0 (.slice none 0 0) [] := ⟨Blk.new _ _ _, On.nil _ _ _⟩

set_option maxHeartbeats 400000 in
theorem new_no (n : Int) (w : World) (h : n < 1 ∨ 4096 < n) :
    Calls Try.prog 114 #[.int .i64 n] w fun e w' => e = .returned (.tuple #[.pointer none, .int .i64 1]) ∧ w = w' := by
  rcases h with h | h
  · go_enter Try.func114, Try.ntmps114
    go_wp2
    go_ret2
    exact ⟨rfl, rfl⟩
  · have h' : ¬ n < 1 := by omega
    go_enter Try.func114, Try.ntmps114
    go_wp2
    go_ret2
    exact ⟨rfl, rfl⟩


end Go.Proofs.Ytblnfkhaicjeaaa.RingE
