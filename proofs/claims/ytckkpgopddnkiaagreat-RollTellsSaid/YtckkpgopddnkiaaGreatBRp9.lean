/-
  Texts joined: StoreR, NetG, Gsums, RingE, RingEB, RingEC, RingED, RingEE. No condition.
-/
import Derived.Test.YtckkpgopddnkiaaGreatBRp8
import Derived.Deep.RegionHeld3
import Derived.Test.YtckkpgopddnkiaaGreatProg
import Derived.Great.BuildSlice
import Derived.RangeFuncNested
import Derived.RangeFuncBound
import Derived.RangeFuncCalls
import Derived.RangeFuncLeaves
import Derived.RangeFuncFrom
import Derived.RangeFuncBox
import Derived.Shelf.Abstract
import Derived.Shelf.RegionOpen
import Derived.OwnWalkIn
import Derived.TacticsInMore
import Derived.LoopNIn
import Derived.LoopIn
namespace Go.Proofs.YtckkpgopddnkiaaGreat.Gm
open Go.RowKit Go.Sort Go.Proofs.YtckkpgopddnkiaaGreat.Num
set_option linter.all false

def storeR (P : Program) (t : TypeId) (p v : Value) (w : World) : Result Next := (Sem.run P (Instr.storeAt t p v) w).andThen fun _ w' => .ok .skip w'
section
variable (ev : Operand → Value) (dst : Option Tmp) (x y : Operand) (ty : TypeId) (pos : String) (after : Array Edge) (guard : Option (Nat × Bool)) (w : World)
theorem exec_store (t : TypeId) : (execOp ev { dst := dst, op := Op.store t x y, type := ty, pos := pos, after := after, guard := guard }).run Tryz.prog w = storeR Tryz.prog t (ev x) (ev y) w := by
  unfold execOp storeR
  simp only [Sem.run_bind, Sem.run_pure]
theorem exec_load (t : TypeId) : (execOp ev { dst := dst, op := Op.load t x, type := ty, pos := pos, after := after, guard := guard }).run Tryz.prog w = loadR Tryz.prog t (ev x) w := by
  unfold execOp loadR
  simp only [Sem.run_bind, Sem.run_pure]
theorem exec_st33 : (execOp ev { dst := dst, op := Op.store 47 x y, type := ty, pos := pos, after := after, guard := guard }).run Tryz.prog w = storeR Tryz.prog 47 (ev x) (ev y) w := exec_store ..
theorem exec_st26 : (execOp ev { dst := dst, op := Op.store 40 x y, type := ty, pos := pos, after := after, guard := guard }).run Tryz.prog w = storeR Tryz.prog 40 (ev x) (ev y) w := exec_store ..
theorem exec_st29 : (execOp ev { dst := dst, op := Op.store 43 x y, type := ty, pos := pos, after := after, guard := guard }).run Tryz.prog w = storeR Tryz.prog 43 (ev x) (ev y) w := exec_store ..
theorem exec_ld26 : (execOp ev { dst := dst, op := Op.load 40 x, type := ty, pos := pos, after := after, guard := guard }).run Tryz.prog w = loadR Tryz.prog 40 (ev x) w := exec_load ..
theorem exec_ld29 : (execOp ev { dst := dst, op := Op.load 43 x, type := ty, pos := pos, after := after, guard := guard }).run Tryz.prog w = loadR Tryz.prog 43 (ev x) w := exec_load ..
end
theorem storeR_mid {w w' : World} {b o : Nat} {ty : TypeId} {cells : Array Value} (ht : w.there b o cells.size) (hi : (Tryz.prog.info? ty).map (·.size) = some cells.size) (h1 : cells.all (·.oneCell') = true) (hw : w.setCells b o cells.toList = w') :
    storeR Tryz.prog ty (.pointer (some ⟨b, o, none⟩)) (.agg cells) w = .ok .skip w' := by
  unfold storeR
  rw [run_storeAt_mid w b o ty cells ht hi h1, hw]
  rfl
/-- A row of cells, if it is there. -/
def rowIn (w : World) (g o n : Nat) : Option (List Value) := (List.range n).mapM fun j => w.cell? ⟨g, o + j, none⟩
theorem rowIn_aux (w : World) (g o : Nat) : ∀ (L : List Value) (k : Nat), (∀ j v, L[j]? = some v → w.cell? ⟨g, o + (k + j), none⟩ = some v) → (List.range' k L.length).mapM (fun j => w.cell? ⟨g, o + j, none⟩) = some L
  | [], k, _ => rfl
  | v :: L, k, h => by
    have h0 := h 0 v rfl
    have hr := rowIn_aux w g o L (k + 1) (fun j u hj => by
      have := h (j + 1) u (by simpa using hj)
      rw [← this]
      congr 2
      omega)
    rw [List.length_cons, List.range'_succ, List.mapM_cons]
    rw [Nat.add_zero] at h0
    rw [h0, hr]
    rfl
theorem rowIn_of {w : World} {g o n : Nat} {L : List Value} (h : w.rangeAt g o L) (hn : L.length = n) : rowIn w g o n = some L := by
  unfold rowIn
  rw [List.range_eq_range', ← hn]
  exact rowIn_aux w g o L 0 (fun j v hj => by rw [Nat.zero_add]; exact h j v hj)
theorem rowIn_drew (w : World) (g o n : Nat) : rowIn w.drew g o n = rowIn w g o n := rfl
theorem of_rowIn {w : World} {g o n : Nat} {L : List Value} (h : rowIn w g o n = some L) : w.rangeAt g o L ∧ L.length = n := by
  unfold rowIn at h
  rw [List.range_eq_range'] at h
  have key : ∀ (n k : Nat) (L : List Value), (List.range' k n).mapM (fun j => w.cell? ⟨g, o + j, none⟩) = some L → L.length = n ∧ ∀ j v, L[j]? = some v → w.cell? ⟨g, o + (k + j), none⟩ = some v := by
    intro n
    induction n with
    | zero => intro k L h; cases h; exact ⟨rfl, fun j v hj => by simp at hj⟩
    | succ n ih =>
      intro k L h
      rw [List.range'_succ, List.mapM_cons] at h
      cases h0 : w.cell? ⟨g, o + k, none⟩ with
      | none => rw [h0] at h; cases h
      | some v0 =>
        rw [h0] at h
        cases h1 : (List.range' (k + 1) n).mapM (fun j => w.cell? ⟨g, o + j, none⟩) with
        | none => rw [h1] at h; cases h
        | some L1 =>
          rw [h1] at h
          cases h
          obtain ⟨hl, hc⟩ := ih (k + 1) L1 h1
          refine ⟨by simp [hl], fun j v hj => ?_⟩
          cases j with
          | zero => simp at hj; rw [← hj]; simpa using h0
          | succ j => have := hc j v (by simpa using hj); rw [← this]; congr 2; omega
  obtain ⟨hl, hc⟩ := key n 0 L h
  exact ⟨fun j v hj => by have := hc j v hj; rwa [Nat.zero_add] at this, hl⟩
def loadI (w : World) (r : Result Next) : Option (List Value) → Result Next
  | some L => .ok (.value (.agg L.toArray)) w
  | none => r
theorem loadI_none (w : World) (r : Result Next) : loadI w r none = r := rfl
theorem loadI_some (w : World) (r : Result Next) (L : List Value) : loadI w r (some L) = .ok (.value (.agg L.toArray)) w := rfl
def loadR0 (P : Program) (t : TypeId) (v : Value) (w : World) : Result Next := loadR P t v w
theorem loadR_mid {ty : TypeId} {n : Nat} (w : World) (g o : Nat) (d : TypeDesc) (hu : Tryz.prog.underlying ty = some d) (hd : d.isRow = true) (hi : (Tryz.prog.info? ty).map (·.size) = some n) :
    loadR Tryz.prog ty (.pointer (some ⟨g, o, none⟩)) w = loadI w (loadR0 Tryz.prog ty (.pointer (some ⟨g, o, none⟩)) w) (rowIn w g o n) := by
  cases h : rowIn w g o n with
  | none => rw [loadI_none]; unfold loadR0; exact Eq.refl _
  | some L =>
    obtain ⟨hr, hl⟩ := of_rowIn h
    rw [loadI_some]
    unfold loadR
    rw [run_loadAt_mid w g o ty L d hr hu hd (by rw [hl]; exact hi)]
    rfl
theorem loadR26 (w : World) (g o : Nat) : loadR Tryz.prog 40 (.pointer (some ⟨g, o, none⟩)) w = loadI w (loadR0 Tryz.prog 40 (.pointer (some ⟨g, o, none⟩)) w) (rowIn w g o 7) :=
  loadR_mid w g o _ Tryz.underlying40 rfl infoB
theorem loadR29 (w : World) (g o : Nat) : loadR Tryz.prog 43 (.pointer (some ⟨g, o, none⟩)) w = loadI w (loadR0 Tryz.prog 43 (.pointer (some ⟨g, o, none⟩)) w) (rowIn w g o 6) :=
  loadR_mid w g o _ Tryz.underlying43 rfl infoS
end Go.Proofs.YtckkpgopddnkiaaGreat.Gm
namespace Go.Proofs.YtckkpgopddnkiaaGreat.Netw
open Go.RowKit
set_option linter.all false

end Go.Proofs.YtckkpgopddnkiaaGreat.Netw
namespace Go.Proofs.YtckkpgopddnkiaaGreat.Gm
open Go.RowKit Go.Sort Go.Proofs.YtckkpgopddnkiaaGreat.Num Go.Proofs.YtckkpgopddnkiaaGreat.Byt
set_option linter.all false
attribute [local go_sem ↓] exec33
attribute [local go_sem] loadR_at cellsAt_drew

theorem nth_some {l : List Int} {k : Nat} (h : k < l.length) : l[k]? = some (nth l k) := by simp [nth, List.getD, h]
theorem out_row {w : World} {v : Value} {xs : List Int} (h : Out w v xs) : ∃ a c, v = .slice a xs.length c ∧ Row .u8 w a xs.length xs := by
  rcases On.form h with ⟨rfl, hn, hx⟩ | ⟨g, cap, rfl, hnc, hcm, how, hgl, hcell, hfr⟩
  · exact ⟨none, 0, by rw [hn], rfl, fun hp => by omega⟩
  · refine ⟨_, _, rfl, rfl, fun hp => ⟨g, 0, rfl, hgl, fun j hj => ?_⟩⟩
    rw [Nat.zero_add]
    exact hcell j _ (by unfold ub; rw [List.getElem?_map, nth_some hj]; rfl)
theorem Row.below8 {w w' : World} {a : Option Addr} {len : Nat} {zs : List Int} (h : Row .u8 w a len zs) (hb : Below w.heap.size w w') : Row .u8 w' a len zs := h.below hb

end Go.Proofs.YtckkpgopddnkiaaGreat.Gm
namespace Go.Proofs.YtckkpgopddnkiaaGreat.RingE
open Go.RowKit Go.Sort Go.Proofs.YtckkpgopddnkiaaGreat.Gm
set_option linter.all false

abbrev NT := F × Int
def cs (x : NT) : List Value := (stA x.1).toList ++ [.int .u32 x.2]
theorem cs_len : ∀ x, (cs x).length = 67 := fun x => by simp [cs, stA]
theorem cs_one : ∀ x, ∀ u ∈ cs x, u.oneCell' = true := by
  intro x u hu
  rcases List.mem_append.1 hu with h | h
  · exact (Array.all_eq_true_iff_forall_mem.1 (stA_one x.1)) u (by simpa using h)
  · obtain rfl := List.mem_singleton.1 h
    rfl
theorem info : (Tryz.prog.info? 98).map (fun i => (i.zero, i.size, i.bytes)) = some (some (.agg Tryz.zeroCells98), 67, 536) := by kernel_rfl
theorem infoE : (Tryz.prog.info? 98).map (·.size) = some 67 := by kernel_rfl

/-- A ring in memory: its block, and its list. -/
def At (w : World) (r : Nat) (room first : Int) (sv : Value) (l : List NT) : Prop :=
  Blk w r 123 #[.int .i64 room, .int .i64 first, sv] ∧ On w 98 67 sv l.length (flat cs l)
def fp (r : Nat) (sv : Value) : Nat → Prop := fun k => k = r ∨ sv.ownBlock = some k
section
variable {S : Nat → Prop} {w w' : World} {r : Nat} {room first : Int} {sv : Value} {l : List NT}
theorem At.lt (h : At w r room first sv l) : ∀ k, fp r sv k → k < w.heap.size := fun k hk => hk.elim (fun e => e ▸ h.1.lt) (fun e => h.2.lt k e)
theorem At.ne_ (h : At w r room first sv l) : sv.ownBlock ≠ some r := h.2.blk_ne h.1 (by decide)
theorem At.drewN (h : At w r room first sv l) (n : Nat) : At (w.drewN n) r room first sv l := h
theorem At.drew (h : At w r room first sv l) : At w.drew r room first sv l := h
theorem At.alloc (h : At w r room first sv l) (o : Obj) : At (w.alloc o) r room first sv l := ⟨h.1.alloc o, h.2.alloc o⟩
theorem At.heap_eq (h : At w r room first sv l) (hW : w'.heap = w.heap) : At w' r room first sv l := ⟨h.1.heap_eq hW, h.2.heap_eq hW⟩
theorem At.touch (h : At w r room first sv l) (ht : Touch S w w') (hS : ∀ k, fp r sv k → ¬ S k) : At w' r room first sv l := ⟨h.1.touch ht (hS r (.inl rfl)), h.2.touch ht fun g hg => hS g (.inr hg)⟩
theorem At.below (h : At w r room first sv l) (hb : Below w.heap.size w w') : At w' r room first sv l := ⟨h.1.below hb h.1.lt, h.2.below hb h.2.lt⟩
theorem At.cells (h : At w r room first sv l) : (w.cell? ⟨r, 0, none⟩ = some (.int .i64 room) ∧ w.cell? ⟨r, 1, none⟩ = some (.int .i64 first) ∧ w.cell? ⟨r, 2, none⟩ = some sv) ∧
    (w.frozen? ⟨r, 0, none⟩ = false ∧ w.frozen? ⟨r, 1, none⟩ = false ∧ w.frozen? ⟨r, 2, none⟩ = false) :=
  ⟨⟨h.1.cell 0, h.1.cell 1, h.1.cell 2⟩, h.1.frozen 0, h.1.frozen 1, h.1.frozen 2⟩
theorem At.slc (h : At w r room first sv l) : ∃ a c, sv = .slice a l.length c ∧ l.length ≤ c ∧ c ≤ maxLen ∧ (0 < l.length → ∃ g, a = some ⟨g, 0, none⟩ ∧ g ≠ r ∧ ∀ j x, l[j]? = some x → w.rangeAt g (j * 67) (cs x)) := by
  have hne := h.ne_
  rcases h.2.form with ⟨rfl, h0, _⟩ | ⟨g, cap, hv, hnc, hcm, hown, hlt, hc, hf⟩
  · exact ⟨none, 0, by rw [h0], by omega, by simp [maxLen], fun hp => by omega⟩
  · refine ⟨_, cap, hv, hnc, hcm, fun _ => ⟨g, rfl, fun e => hne (by rw [hown, e]), fun j x hx i v hi => ?_⟩⟩
    have hil : i < 67 := by
      have := (List.getElem?_eq_some_iff.1 hi).1
      rwa [cs_len] at this
    exact hc (j * 67 + i) _ (by rw [flat_get cs_len l hx hil]; exact hi)
end
set_option maxHeartbeats 400000 in
theorem first_any (w : World) (r : Nat) (room first : Int) (sv : Value) (l : List NT) (h : At w r room first sv l) :
    Calls Tryz.prog 63 #[.pointer (some ⟨r, 0, none⟩)] w fun e w' => e = .returned (.int .i64 first) ∧ w = w' := by
  obtain ⟨⟨c0, c1, c2⟩, f0, f1, f2⟩ := h.cells
  go_enter Tryz.func63, Tryz.ntmps63
  go_wp2
  go_ret
  exact ⟨rfl, rfl⟩

set_option maxHeartbeats 400000 in
theorem len_any (w : World) (r : Nat) (room first : Int) (sv : Value) (l : List NT) (h : At w r room first sv l) :
    Calls Tryz.prog 60 #[.pointer (some ⟨r, 0, none⟩)] w fun e w' => e = .returned (.int .i64 l.length) ∧ w = w' := by
  obtain ⟨⟨c0, c1, c2⟩, f0, f1, f2⟩ := h.cells
  obtain ⟨a, c, rfl, hlc, hcm, hsv⟩ := h.slc
  go_enter Tryz.func60, Tryz.ntmps60
  go_wp2
  go_ret
  exact ⟨rfl, rfl⟩

set_option maxHeartbeats 400000 in
theorem next_any (w : World) (r : Nat) (room first : Int) (sv : Value) (l : List NT) (h : At w r room first sv l) (h0 : 0 ≤ first) (h1 : first + l.length ≤ 4611686018427387904) :
    Calls Tryz.prog 61 #[.pointer (some ⟨r, 0, none⟩)] w fun e w' => e = .returned (.int .i64 (first + l.length)) ∧ ∃ n, w' = w.drewN n := by
  obtain ⟨⟨c0, c1, c2⟩, f0, f1, f2⟩ := h.cells
  obtain ⟨a, c, rfl, hlc, hcm, hsv⟩ := h.slc
  go_enter Tryz.func61, Tryz.ntmps61
  go_wp2
  go_quiet (fail)
  go_wp2
  go_ret
  exact ⟨rfl, nq, rfl⟩

/-- Where an entry stands. -/
def placeB (first : Int) (len : Nat) (n : Int) : Int := if n < first then -1 else if n - first ≥ len then -1 else n - first

set_option maxHeartbeats 400000 in
theorem place_any (w : World) (r : Nat) (room first n : Int) (sv : Value) (l : List NT) (h : At w r room first sv l) (h0 : 0 ≤ first) (hn : n ≤ 9223372036854775807) :
    Calls Tryz.prog 74 #[.pointer (some ⟨r, 0, none⟩), .int .i64 n] w fun e w' => e = .returned (.int .i64 (placeB first l.length n)) ∧ ∃ n, w' = w.drewN n := by
  obtain ⟨⟨c0, c1, c2⟩, f0, f1, f2⟩ := h.cells
  obtain ⟨a, c, rfl, hlc, hcm, hsv⟩ := h.slc
  by_cases c0 : n < first
  · have d0 : decide (n < first) = true := by simp [c0]
    have e : placeB first l.length n = -1 := by simp [placeB, c0]
    have E := Lib.hid e
    clear e
    go_enter Tryz.func74, Tryz.ntmps74
    go_wp2_with fail
    go_quiet (fail)
    go_wp2
    go_ret
    exact ⟨ret_int E.out.symm, nq, rfl⟩
  · have d0 : decide (n < first) = false := by simp [c0]
    by_cases c1 : (l.length : Int) ≤ n - first
    · have e : placeB first l.length n = -1 := by simp [placeB, c0, c1]
      have E := Lib.hid e
      clear e
      go_enter Tryz.func74, Tryz.ntmps74
      go_wp2_with fail
      go_quiet (fail)
      go_wp2
      go_ret
      exact ⟨ret_int E.out.symm, nq, rfl⟩
    · have e : placeB first l.length n = n - first := by simp [placeB, c0, c1]
      have E := Lib.hid e
      clear e
      go_enter Tryz.func74, Tryz.ntmps74
      go_wp2_with fail
      go_quiet (fail)
      go_wp2
      go_ret
      exact ⟨ret_int E.out.symm, nq, rfl⟩

set_option maxHeartbeats 400000 in
theorem new_ok (n : Int) (w : World) (h : 1 ≤ n) (h2 : n ≤ 4096) :
    Calls Tryz.prog 59 #[.int .i64 n] w fun e w' => e = .returned (.tuple #[.pointer (some ⟨w.heap.size, 0, none⟩), .int .i64 0]) ∧ w.alloc (.cells #[.int .i64 n, .int .i64 0, .slice none 0 0] 123) = w' := by
  go_enter Tryz.func59, Tryz.ntmps59
  go_wp2
  go_ret2
  exact ⟨rfl, rfl⟩

theorem at_new (w : World) (n : Int) : At (w.alloc (.cells #[.int .i64 n, .int .i64 0, .slice none 0 0] 123)) w.heap.size n 0 (.slice none 0 0) [] := ⟨Blk.new _ _ _, On.nil _ _ _⟩

set_option maxHeartbeats 400000 in
theorem new_no (n : Int) (w : World) (h : n < 1 ∨ 4096 < n) :
    Calls Tryz.prog 59 #[.int .i64 n] w fun e w' => e = .returned (.tuple #[.pointer none, .int .i64 1]) ∧ w = w' := by
  rcases h with h | h
  · go_enter Tryz.func59, Tryz.ntmps59
    go_wp2
    go_ret2
    exact ⟨rfl, rfl⟩
  · have h' : ¬ n < 1 := by omega
    go_enter Tryz.func59, Tryz.ntmps59
    go_wp2
    go_ret2
    exact ⟨rfl, rfl⟩


end Go.Proofs.YtckkpgopddnkiaaGreat.RingE
namespace Go.Proofs.YtckkpgopddnkiaaGreat.RingE
open Go.RowKit Go.Sort Go.Proofs.YtckkpgopddnkiaaGreat.Gm
set_option linter.all false

/-- Two results, the first one in a cell. -/
theorem pair_results {fn : Func} (hfn : fn.results = #[.cell 4 98, .tmp 5]) (tmps : Array Value) (W : World) (g : Nat) (t : TypeId) (C : Array Value) (v : Value) (h : Blk W g t C) (hC : (Tryz.prog.info? 98).map (·.size) = some C.size)
    (h4 : tmps.getD 4 undef = .pointer (some ⟨g, 0, none⟩)) (h5 : tmps.getD 5 undef = v) : (results fn tmps).run Tryz.prog W = .ok (.tuple #[.agg C, v]) W := by
  have e4 : tmps[4]?.getD undef = .pointer (some ⟨g, 0, none⟩) := by simpa using h4
  have e5 : tmps[5]?.getD undef = v := by simpa using h5
  have hl := run_loadVar_row (P := Tryz.prog) W g t 98 C (0, 0) _ h Tryz.underlying98 rfl hC
  simp [results, hfn, e4, e5, asAddr, hl]
theorem zE : Tryz.zeroCells98 = (cs (zF, 0)).toArray := by kernel_rfl
/-- An entry's cells as a letter. -/
structure EL (C : Array Value) (x : NT) : Prop where
  eq : C.toList = cs x
  size : C.size = 67
  one : C.all (·.oneCell') = true
  info : (Tryz.prog.info? 98).map (·.size) = some C.size
theorem el_of (x : NT) : ∃ C, EL C x := by
  refine ⟨(cs x).toArray, rfl, by simp [cs_len], Array.all_eq_true_iff_forall_mem.2 (fun v hv => cs_one x v (by simpa using hv)), ?_⟩
  rw [infoE]
  simp [cs_len]
theorem EL.same {C D : Array Value} {x : NT} (h : EL C x) (h' : EL D x) : C = D := Array.ext' (h.eq.trans h'.eq.symm)
def none0 : NT := (zF, 0)
def atX (first : Int) (l : List NT) (n : Int) : NT := if n < first then none0 else l.getD (n - first).toNat none0
def atE (first : Int) (len : Nat) (n : Int) : Int := if n < first then 90 else if n - first ≥ len then 91 else 0

set_option maxRecDepth 100000 in
set_option maxHeartbeats 4000000 in
theorem at_any (w : World) (r : Nat) (room first n : Int) (sv : Value) (l : List NT) (h : At w r room first sv l) (h0 : 0 ≤ first) (hn : n ≤ 9223372036854775807) :
    Calls Tryz.prog 51 #[.pointer (some ⟨r, 0, none⟩), .int .i64 n] w fun e w' => ∃ C, EL C (atX first l n) ∧ e = .returned (.tuple #[.agg C, .int .i64 (atE first l.length n)]) ∧ Below w.heap.size w w' := by
  obtain ⟨Z, LZ⟩ := el_of none0
  have hZ : Tryz.zeroCells98 = Z := by rw [zE]; exact Array.ext' LZ.eq.symm
  obtain ⟨W1, hW1⟩ : ∃ W1, W1 = (w.alloc (.cells Z 98)).alloc (.cells Z 98) := ⟨_, rfl⟩
  have hR : Blk W1 w.heap.size 98 Z := by rw [hW1]; exact (Blk.new _ _ _).alloc _
  have hN : Blk W1 (w.heap.size + 1) 98 Z := by
    rw [hW1]
    have := Blk.new (w.alloc (.cells Z 98)) 98 Z
    simpa using this
  have hB : Below w.heap.size w W1 := by rw [hW1]; exact ((Below.refl _ w).alloc (Nat.le_refl _) _).alloc (by simp) _
  have hA := h.below hB
  clear h
  have hp := place_any W1 r room first n sv l hA h0 hn
  obtain ⟨⟨c0, c1, c2⟩, -⟩ := hA.cells
  obtain ⟨a, c, rfl, hlc, hcm, hsv⟩ := hA.slc
  unfold maxLen at hcm
  by_cases b0 : n < first
  · have e1 := Lib.hid (show atX first l n = none0 by simp [atX, b0])
    have e2 := Lib.hid (show atE first l.length n = 90 by simp [atE, b0])
    have e3 : placeB first l.length n = -1 := by simp [placeB, b0]
    rw [e3] at hp
    have hp := Lib.hid hp
    have hzl := LZ.size
    have hzo := LZ.one
    have hzi := LZ.info
    have HL := Lib.hid LZ
    have HB := Lib.hid hB
    clear e3 hA hsv LZ hB
    go_enter Tryz.func51, Tryz.ntmps51
    go_upto_region 2 with fail
    rw [← hW1]
    clear hW1 hZ
    go_wp2_with fail
    refine hp.out.mono ?_
    rintro e w2 ⟨rfl, nq, rfl⟩
    have hR2 := hR.drewN nq
    have hN2 := hN.drewN nq
    have HB2 := Lib.hid (below_drewN HB.out nq)
    clear hR hN hp HB
    go_wp2_with (first
      | (refine wpList_load_blk (by rfl) 98 _ (by rfl) (w.heap.size + 1) (by rfl) _ Z _ hN2 Tryz.underlying98 (by rfl) hzi ?_)
      | (refine wpList_store_blk (by rfl) 98 _ _ (by rfl) w.heap.size Z (by rfl) (by rfl) _ Z hR2 hzi rfl hzo ?_; intro W6 hd6 ht6)
      | fail)
    refine bodyPost_ret (v := .tuple #[.agg Z, .int .i64 90]) (pair_results Tryz.results51 _ _ w.heap.size _ Z _ hd6 hzi (by rfl) (by rfl)) rfl ⟨Z, by rw [e1.out]; exact HL.out, by rw [e2.out], HB2.out.trans (ht6.below HB2.out.size (fun k hk => by omega))⟩
  · by_cases b1 : (l.length : Int) ≤ n - first
    · have e1 := Lib.hid (show atX first l n = none0 by unfold atX; rw [if_neg b0, List.getD_eq_getElem?_getD, List.getElem?_eq_none (by omega)]; rfl)
      have e2 := Lib.hid (show atE first l.length n = 91 by simp [atE, b0, b1])
      have e3 : placeB first l.length n = -1 := by simp [placeB, b0, b1]
      rw [e3] at hp
      have hp := Lib.hid hp
      have hzl := LZ.size
      have hzo := LZ.one
      have hzi := LZ.info
      have HL := Lib.hid LZ
      have HB := Lib.hid hB
      clear e3 hA hsv LZ hB b1
      go_enter Tryz.func51, Tryz.ntmps51
      go_upto_region 2 with fail
      rw [← hW1]
      clear hW1 hZ
      go_wp2_with fail
      refine hp.out.mono ?_
      rintro e w2 ⟨rfl, nq, rfl⟩
      have hR2 := hR.drewN nq
      have hN2 := hN.drewN nq
      have HB2 := Lib.hid (below_drewN HB.out nq)
      clear hR hN hp HB
      go_wp2_with (first
        | (refine wpList_load_blk (by rfl) 98 _ (by rfl) (w.heap.size + 1) (by rfl) _ Z _ hN2 Tryz.underlying98 (by rfl) hzi ?_)
        | (refine wpList_store_blk (by rfl) 98 _ _ (by rfl) w.heap.size Z (by rfl) (by rfl) _ Z hR2 hzi rfl hzo ?_; intro W6 hd6 ht6)
        | fail)
      refine bodyPost_ret (v := .tuple #[.agg Z, .int .i64 91]) (pair_results Tryz.results51 _ _ w.heap.size _ Z _ hd6 hzi (by rfl) (by rfl)) rfl ⟨Z, by rw [e1.out]; exact HL.out, by rw [e2.out], HB2.out.trans (ht6.below HB2.out.size (fun k hk => by omega))⟩
    · obtain ⟨i, hi⟩ : ∃ i : Nat, n - first = i := ⟨(n - first).toNat, by omega⟩
      have hil : i < l.length := by omega
      obtain ⟨g, rfl, hgr, hrow⟩ := hsv (by omega)
      have hx : l[i]? = some (l[i]'hil) := List.getElem?_eq_getElem hil
      have hrg := hrow i _ hx
      have e1 := Lib.hid (show atX first l n = l[i]'hil by unfold atX; rw [if_neg b0, List.getD_eq_getElem?_getD, hi, Int.toNat_natCast, hx]; rfl)
      have e2 := Lib.hid (show atE first l.length n = 0 by simp [atE, b0]; omega)
      have e3 : placeB first l.length n = i := by simp [placeB, b0]; omega
      rw [e3] at hp
      generalize l[i]'hil = x at *
      obtain ⟨L, hL⟩ : ∃ L, L = cs x := ⟨_, rfl⟩
      rw [← hL] at hrg
      have hLn : L.length = 67 := by rw [hL]; exact cs_len x
      have hLi : (Tryz.prog.info? 98).map (·.size) = some L.length := by rw [hLn]; exact infoE
      have HEL := Lib.hid (show EL L.toArray x from ⟨hL, by simp [hLn], Array.all_eq_true_iff_forall_mem.2 (fun v hv => cs_one x v (by rw [← hL]; simpa using hv)), by rw [infoE]; simp [hLn]⟩)
      have hlo := HEL.out.one
      have hli := HEL.out.info
      have hzs : Z.size = L.toArray.size := by rw [LZ.size, HEL.out.size]
      have hp := Lib.hid hp
      have HB := Lib.hid hB
      have i1 : (0 : Int) ≤ (i : Int) := by omega
      have i2 : (i : Int) < (l.length : Int) := by omega
      clear e3 hA hsv LZ hB b1 hrow hx hL hi hil
      go_enter Tryz.func51, Tryz.ntmps51
      go_upto_region 2 with fail
      rw [← hW1]
      clear hW1 hZ
      go_wp2_with fail
      refine hp.out.mono ?_
      rintro e w2 ⟨rfl, nq, rfl⟩
      have hR2 := hR.drewN nq
      have hrg2 : (W1.drewN nq).rangeAt g (i * 67) L := hrg
      have HB2 := Lib.hid (below_drewN HB.out nq)
      clear hR hN hp HB hrg
      go_wp2_with (first
        | (refine wpList_load_mid (by rfl) 98 _ (by rfl) g (i * 67) (by rfl) L _ hrg2 Tryz.underlying98 (by rfl) hLi ?_)
        | (refine wpList_store_blk (by rfl) 98 _ _ (by rfl) w.heap.size L.toArray (by rfl) (by rfl) _ Z hR2 hli hzs hlo ?_; intro W6 hd6 ht6)
        | fail)
      refine bodyPost_ret (v := .tuple #[.agg L.toArray, .int .i64 0]) (pair_results Tryz.results51 _ _ w.heap.size _ L.toArray _ hd6 hli (by rfl) (by rfl)) rfl ⟨L.toArray, by rw [e1.out]; exact HEL.out, by rw [e2.out], HB2.out.trans (ht6.below HB2.out.size (fun k hk => by omega))⟩
end Go.Proofs.YtckkpgopddnkiaaGreat.RingE
namespace Go.Proofs.YtckkpgopddnkiaaGreat.RingE
open Go.RowKit Go.Sort Go.Proofs.YtckkpgopddnkiaaGreat.Gm
set_option linter.all false

theorem exec_ldE (ev : Operand → Value) (dst : Option Tmp) (x : Operand) (ty : TypeId) (pos : String) (after : Array Edge) (guard : Option (Nat × Bool)) (w : World) :
    (execOp ev { dst := dst, op := Op.load 98 x, type := ty, pos := pos, after := after, guard := guard }).run Tryz.prog w = loadR Tryz.prog 98 (ev x) w := exec_load ..
theorem loadRE_at (w : World) (g : Nat) (h : (cellsAt w g).size = 67) : loadR Tryz.prog 98 (.pointer (some ⟨g, 0, none⟩)) w = .ok (.value (.agg (cellsAt w g))) w := by
  obtain ⟨t, hg⟩ := cellsAt_inv (w := w) (g := g) (by omega)
  unfold loadR
  simp only [Instr.loadAt, Instr.sureAddr, Sem.run_bind, Sem.run_pure, Result.andThen_ok, run_loadVar_row w g t 98 (cellsAt w g) (0, 0) _ hg Tryz.underlying98 rfl (by rw [h]; exact infoE)]
def bsR (P : Program) (v : Value) (w : World) : Result Next := (Sem.run P (Instr.buildSlice 121 1 #[(0, v)]) w).andThen fun u w' => .ok (.value u) w'
theorem exec_bsE (ev : Operand → Value) (dst : Option Tmp) (x : Operand) (ty : TypeId) (pos : String) (after : Array Edge) (guard : Option (Nat × Bool)) (w : World) :
    (execOp ev { dst := dst, op := Op.buildSlice 121 1 #[(0, x)], type := ty, pos := pos, after := after, guard := guard }).run Tryz.prog w = bsR Tryz.prog (ev x) w := by
  unfold execOp bsR
  simp only [Sem.run_bind, Sem.run_pure, List.map_toArray, List.map_cons, List.map_nil]
theorem bsR_at (w : World) (E : Array Value) (h : E.size = 67) : bsR Tryz.prog (.agg E) w = .ok (.value (.slice (some ⟨w.heap.size, 0, none⟩) 1 1)) (w.alloc (.cells E 98)) := by
  obtain ⟨i0, hi0, hz0, hz1, hz2⟩ := info_parts info
  have hf := Great.fill_whole (s := 67) (by omega) [Value.agg E] ((Array.range (1 * i0.size)).map ((Value.agg Tryz.zeroCells98).cells[· % (Value.agg Tryz.zeroCells98).cells.size]!)) (fun v hv => by obtain rfl := List.mem_singleton.1 hv; exact h) (by simp [hz1])
  unfold bsR
  rw [run_buildSlice w 121 98 1 #[(0, .agg E)] E i0 _ Tryz.underlying121 hi0 hz0 (by rw [hz1]; omega) (by rw [hz1]; omega) (by
    rw [hz1] at hf ⊢
    refine hf.trans ?_
    simp [Value.cells])]
  rfl
attribute [local go_sem ↓] exec_ldE exec_bsE
attribute [local go_sem] loadRE_at bsR_at cellsAt_drew

/-- What a call leaves: a ring, in its own blocks or new ones; nothing else has turned. -/
def Turned (w : World) (r : Nat) (sv : Value) (room first : Int) (l : List NT) (w' : World) : Prop :=
  ∃ sv', At w' r room first sv' l ∧ Touch (fp r sv) w w' ∧ ∀ k, fp r sv' k → fp r sv k ∨ w.heap.size ≤ k

def putF (room first : Int) (l : List NT) : Int := if (l.length : Int) = room then first + 1 else first
def putL (room : Int) (l : List NT) (v : NT) : List NT := (if (l.length : Int) = room then l.drop 1 else l) ++ [v]

/-- The list's end, in new memory. -/
theorem shift_ok {w w1 W : World} {r g c k n : Nat} {room first : Int} {l : List NT} {a' : Option Addr} {c' : Nat} (h : At w r room first (.slice (some ⟨g, 0, none⟩) l.length c) l) (hW : W.heap = w.heap) (hg : W.grownBy w1 (Value.slice (some ⟨g, 0, none⟩) 0 0).ownBlock)
    (hT : Touch (fp r (.slice (some ⟨g, 0, none⟩) l.length c)) w W) (hn : n = (l.drop k).length)
    (hown : On w1 98 67 (.slice a' n c') n ((flat cs l).drop (k * 67))) (hat : (Value.slice a' n c').ownBlock = (Value.slice (some ⟨g, 0, none⟩) 0 0).ownBlock ∨ (Value.slice a' n c').ownBlock = some W.heap.size) (f' : Int) :
    Turned w r (.slice (some ⟨g, 0, none⟩) l.length c) room f' (l.drop k) ((w1.setCell ⟨r, 2, none⟩ (.slice a' n c')).setCell ⟨r, 1, none⟩ (.int .i64 f')) := by
  subst hn
  have hne := h.ne_
  have hb1 : Blk w1 r _ _ := Blk.grown' hg (by unfold Blk; rw [hW]; exact h.1) (by exact hne)
  have hb3 := (hb1.set_ 2 (.slice a' (l.drop k).length c')).set_ 1 (.int .i64 f')
  refine ⟨.slice a' (l.drop k).length c', ⟨hb3, ?_⟩, ?_, ?_⟩
  · have := (hown.far (p := ⟨r, 2, none⟩) (hown.blk_ne hb1 (by decide)) (.slice a' (l.drop k).length c')).far (p := ⟨r, 1, none⟩) (hown.blk_ne hb1 (by decide)) (.int .i64 f')
    rw [flat_drop cs_len] at this
    exact this
  · exact ((hT.grown hg (fun k hk => .inl (.inr hk))).setCell (.inl (.inl rfl)) _).setCell (.inl (.inl rfl)) _
  · exact fun k hk => hk.elim (fun e => .inl (.inl e)) (fun e => (own_le hat (by rw [hW]; exact Nat.le_refl _) k e).imp .inr id)

theorem Turned.base {w W w' : World} {r : Nat} {sv : Value} {room f : Int} {l : List NT} (h : Turned W r sv room f l w') (hb : Below w.heap.size w W) : Turned w r sv room f l w' := by
  obtain ⟨sv', hA, hT, hF⟩ := h
  exact ⟨sv', hA, (Touch.of_below (S := fp r sv) hb).trans hT (fun k hk => .inl hk), fun k hk => (hF k hk).imp id (fun e => Nat.le_trans hb.size e)⟩

set_option maxRecDepth 100000 in
set_option maxHeartbeats 4000000 in
theorem put_any (w : World) (r : Nat) (room first : Int) (x : NT) (E : Array Value) (LE : EL E x) (sv : Value) (l : List NT) (h : At w r room first sv l) (h0 : 0 ≤ first) (h1 : first + l.length ≤ 4611686018427387904) (hl : l.length ≤ 4096) (hroom : 0 < room) :
    Calls Tryz.prog 65 #[.pointer (some ⟨r, 0, none⟩), .agg E] w fun e w' => e = .returned (.int .i64 (first + l.length)) ∧ Turned w r sv room (putF room first l) (putL room l x) w' := by
  obtain ⟨i0, hi0, hz0, hz1, hz2⟩ := info_parts info
  have hb0 : Below w.heap.size w (w.alloc (.cells E 98)) := (Below.refl _ w).alloc (Nat.le_refl _) _
  have hbx : Blk (w.alloc (.cells E 98)) w.heap.size 98 E := Blk.new _ _ _
  have hlt0 := h.lt
  have hA := h.alloc (.cells E 98)
  obtain ⟨W0, hW0⟩ : ∃ W0, W0 = w.alloc (.cells E 98) := ⟨_, rfl⟩
  have hz : W0.heap.size = w.heap.size + 1 := by rw [hW0]; simp
  rw [← hW0] at hA hbx hb0
  have hbfp : ¬ fp r sv w.heap.size := fun e => by have := hlt0 _ e; omega
  clear h
  obtain ⟨⟨c0, c1, c2⟩, f0, f1, f2⟩ := hA.cells
  have hlt := hA.1.lt
  have hne := hA.ne_
  obtain ⟨a, c, rfl, hlc, hcm, hsv⟩ := hA.slc
  have hp := Lib.hid (next_any W0 r room first _ l hA h0 h1)
  have hsv' := Lib.hid hsv
  have HZ := Lib.hid hz
  clear hsv hz
  go_enter Tryz.func65, Tryz.ntmps65
  go_upto_region 1 with fail
  rw [← hW0]
  clear hW0
  go_wp2_with fail
  refine hp.out.mono ?_
  rintro e w' ⟨rfl, nq_1, rfl⟩
  go_wp2_with fail
  go_quiet (fail)
  go_upto_if 17 with fail
  go_cut [] (fun wx => Turned W0 r (.slice a l.length c) room (putF room first l) (if (l.length : Int) = room then l.drop 1 else l) wx)
  case first =>
    by_cases hr : ((l.length : Int) == room) = true
    · have hre : (l.length : Int) = room := by simpa using hr
      obtain ⟨g, rfl, hgr, hcell⟩ := hsv'.out (by omega)
      have hown0 : On W0 98 67 (.slice (some ⟨g, 0, none⟩) 0 0) 0 [] := by simpa using hA.2.cut (Nat.zero_le _)
      clear hcell
      unfold maxLen at hcm
      have hlp : (1 : Int) ≤ (l.length : Int) := by omega
      have hlp2 : (1 : Int) ≤ (c : Int) := by omega
      have hsrc := Lib.hid (src_drop_n hA.2 1)
      have hq1 : 0 + (l.length - 1) ≤ maxLen := by simp only [maxLen]; omega
      have hq2 : (0 + (l.length - 1)) * 536 ≤ 140737488355328 := by omega
      have hE := Lib.hid hre
      have hdl : ((flat cs l).drop (1 * 67)).length = (l.length - 1) * 67 := by rw [flat_drop cs_len, flat_len cs_len, List.length_drop]
      have hDL := Lib.hid hdl
      have hone : ∀ u ∈ (flat cs l).drop (1 * 67), u.oneCell' = true := fun u hu => one_flat cs_one l u (List.mem_of_mem_drop hu)
      have hONE := Lib.hid hone
      clear hre hdl hone
      by_cases hc1 : c = 1
      · subst hc1
        have hl1 := Lib.hid (show l.length = 1 by omega)
        go_wp2_with fail
        go_region_law (refine step_append_on _ (by rfl) (.tmp 23) (.tmp 28) _ (by rfl) 98 i0 _ 67 536 Tryz.underlying121 hi0 hz0 hz1 hz2 rfl (by omega) (.slice (some ⟨g, 0, none⟩) 0 0) 0 [] (by rfl) (by exact hown0) (some ⟨g, 0, none⟩) 0 0 [] (by rfl) (by rfl) (.inl ⟨rfl, rfl⟩) (fun _ hu => by cases hu) (by simp [maxLen]) (by omega) ?_; intro v' w1 hown1 hg1 hat1; obtain ⟨a', c', rfl, hlc', hcm'⟩ := hown1.slice; have hb1 := Blk.grown' hg1 (by exact hA.1) (by exact hne); have k1 : w1.cell? ⟨r, 1, none⟩ = some (.int .i64 first) := hb1.cell 1; have k2 : w1.cell? ⟨r, 2, none⟩ = some (.slice (some ⟨g, 0, none⟩) l.length 1) := hb1.cell 2; have kf := hb1.frozen 2; have kf1 := hb1.frozen 1)
        all_goals
          go_wp2_with fail
          go_meet
          have hd : l.drop 1 = [] := List.eq_nil_of_length_eq_zero (by rw [List.length_drop, hl1.out])
          simp only [Nat.add_zero, List.append_nil] at hown1 hat1
          rw [putF, if_pos hE.out, if_pos hE.out]
          exact shift_ok hA (by rfl) hg1 ⟨rfl, rfl, rfl, Nat.le_refl _, fun _ _ _ => rfl⟩ (by rw [hd]; rfl) (by rw [flat_drop cs_len, hd]; exact hown1) hat1 _
      · go_wp2_with fail
        go_region_law (refine step_append_on _ (by rfl) (.tmp 23) (.tmp 28) _ (by rfl) 98 i0 _ 67 536 Tryz.underlying121 hi0 hz0 hz1 hz2 rfl (by omega) (.slice (some ⟨g, 0, none⟩) 0 0) 0 [] (by rfl) (by exact hown0) (some ⟨g, 67, none⟩) (l.length - 1) (c - 1) ((flat cs l).drop (1 * 67)) (by rfl) (by exact hDL.out) (by exact hsrc.out) (by exact hONE.out) hq1 hq2 ?_; intro v' w1 hown1 hg1 hat1; obtain ⟨a', c', rfl, hlc', hcm'⟩ := hown1.slice; have hb1 := Blk.grown' hg1 (by exact hA.1) (by exact hne); have k1 : w1.cell? ⟨r, 1, none⟩ = some (.int .i64 first) := hb1.cell 1; have k2 : w1.cell? ⟨r, 2, none⟩ = some (.slice (some ⟨g, 0, none⟩) l.length c) := hb1.cell 2; have kf := hb1.frozen 2; have kf1 := hb1.frozen 1)
        all_goals
          go_wp2_with fail
          go_meet
          simp only [Nat.zero_add, List.nil_append] at hown1 hat1
          rw [putF, if_pos hE.out, if_pos hE.out]
          exact shift_ok hA (by rfl) hg1 ⟨rfl, rfl, rfl, Nat.le_refl _, fun _ _ _ => rfl⟩ (by simp) hown1 hat1 _
    · have hr2 : ((l.length : Int) == room) = false := by simpa using hr
      clear hr
      go_wp2_with fail
      go_meet
      have hne2 : ¬ (l.length : Int) = room := by simpa using hr2
      rw [putF, if_neg hne2, if_neg hne2]
      exact ⟨_, hA, ⟨rfl, rfl, rfl, Nat.le_refl _, fun _ _ _ => rfl⟩, fun k hk => .inl hk⟩
  case rest =>
    obtain ⟨sv1, hA1, hT, hF⟩ := hcut
    have hln : (if (l.length : Int) = room then l.drop 1 else l).length ≤ 4096 := by split <;> first | omega | (rw [List.length_drop]; omega)
    have hPL := Lib.hid (show putL room l x = (if (l.length : Int) = room then l.drop 1 else l) ++ [x] from rfl)
    generalize (if (l.length : Int) = room then l.drop 1 else l) = l1 at hA1 hln hPL
    obtain ⟨first1, hf1⟩ : ∃ x, x = putF room first l := ⟨_, rfl⟩
    rw [← hf1] at hA1
    have hfirst := Lib.hid hf1
    clear hf1
    obtain ⟨⟨d0, d1, d2⟩, e0, e1, e2⟩ := hA1.cells
    have hne1 := hA1.ne_
    clear hne
    have hbx1 := hbx.touch hT hbfp
    have cE : cellsAt wc w.heap.size = E := cellsAt_blk hbx1
    have hE67 := LE.size
    have hEone := Lib.hid (show ∀ u ∈ E.toList, u.oneCell' = true from fun u hu => (Array.all_eq_true_iff_forall_mem.1 LE.one) u (by simpa using hu))
    have hELn := Lib.hid (show E.toList.length = 1 * 67 by simp [LE.size])
    obtain ⟨a1, cc1, rfl, hlc1, hcm1⟩ := hA1.2.slice
    have hneb : (Value.slice a1 l1.length cc1).ownBlock ≠ some w.heap.size := fun e => (hF _ (.inr e)).elim hbfp (fun e2 => by have := HZ.out; omega)
    have hrn : ¬ r = w.heap.size := fun e => hbfp (.inl e.symm)
    have hTs := hT.size
    have hown := Lib.hid (fun (W : World) (hW : W.heap = wc.heap) => (On.heap_eq hA1.2 hW).alloc (.cells E 98))
    have hrlt := hA1.1.lt
    go_wp2_with fail
    go_region_law
      ((refine step_append_on _ (by rfl) (.tmp 43) (.tmp 45) _ (by rfl) 98 i0 _ 67 536 Tryz.underlying121 hi0 hz0 hz1 hz2 rfl (by omega) (.slice a1 l1.length cc1) _ _ (by rfl) (by exact hown.out _ (by rfl)) _ 1 1 E.toList (by rfl) hELn.out (by exact src_new _ _ 1 E.toList) hEone.out (by simp only [maxLen]; omega) (by omega) ?_; intro v' w1 hown1 hg1 hat1; have hb1 := Blk.grown' hg1 (by exact hA1.1.alloc _) (by exact hne1); have k2 := hb1.cell 2; have kf := hb1.frozen 2; have hbx2 := Blk.grown' hg1 (by exact hbx1.alloc _) (by exact hneb); have k3 := cellsAt_blk hbx2; obtain ⟨a', c', rfl, hlc', hcm'⟩ := hown1.slice))
    all_goals
      go_wp2_with fail
      go_ret
      rw [hPL.out, ← hfirst.out]
      refine ⟨rfl, Turned.base ⟨.slice a' (l1.length + 1) c', ⟨hb1.set_ 2 _, ?_⟩, ?_, ?_⟩ hb0⟩
      · have := hown1.far (p := ⟨r, 2, none⟩) (hown1.blk_ne hb1 (by decide)) (.slice a' (l1.length + 1) c')
        rw [flat_snoc]
        rw [LE.eq] at this
        rw [List.length_append]
        exact this
      · refine Touch.setCell ?_ (.inl (.inl rfl)) _
        exact (hT.alloc (.cells E 98)).drew.grown hg1 (fun k hk => hF k (.inr hk))
      · exact fun k hk => hk.elim (fun e => .inl (.inl e)) (fun e => (own_le hat1 (n := W0.heap.size) (by simp; omega) k e).elim (fun e2 => hF k (.inr e2)) .inr)

set_option maxRecDepth 100000 in
set_option maxHeartbeats 1000000 in
theorem reset_any (w : World) (r : Nat) (room first n : Int) (sv : Value) (l : List NT) (h : At w r room first sv l) :
    Calls Tryz.prog 62 #[.pointer (some ⟨r, 0, none⟩), .int .i64 n] w fun e w' => e = .returned (.tuple #[]) ∧ Turned w r sv room n [] w' := by
  obtain ⟨⟨c0, c1, c2⟩, f0, f1, f2⟩ := h.cells
  obtain ⟨a, c, rfl, hlc, hcm⟩ := h.2.slice
  go_enter Tryz.func62, Tryz.ntmps62
  go_wp2
  go_end0
  refine ⟨rfl, .slice none 0 0, ⟨(h.1.set_ 1 _).set_ 2 _, On.nil _ _ _⟩, ((Touch.refl _ _).setCell (.inl (.inl rfl)) _).setCell (.inl (.inl rfl)) _, fun k hk => hk.elim (fun e => .inl (.inl e)) (fun e => by simp [Value.ownBlock] at e)⟩
end Go.Proofs.YtckkpgopddnkiaaGreat.RingE
namespace Go.Proofs.YtckkpgopddnkiaaGreat.RingE
open Go.RowKit Go.Sort Go.Proofs.YtckkpgopddnkiaaGreat.Gm
set_option linter.all false

theorem Turned.same {w w' : World} {r : Nat} {sv : Value} {room first : Int} {l : List NT} (h : At w r room first sv l) (hw : w'.heap = w.heap) (ht : Touch (fp r sv) w w') : Turned w r sv room first l w' :=
  ⟨sv, ⟨by unfold Blk; rw [hw]; exact h.1, h.2.of_heap fun g _ => by rw [hw]⟩, ht, fun _ hk => .inl hk⟩
theorem touch_same (S : Nat → Prop) (w : World) (n : Nat) : Touch S w (w.drewN n) := (Touch.refl S w).drewN n

def cutL (first : Int) (l : List NT) (n : Int) : List NT := if n < first + l.length then l.take (n - first).toNat else l

theorem cut_ok {w : World} {r n : Nat} {room first : Int} {l : List NT} {a : Option Addr} {c : Nat} (h : At w r room first (.slice a l.length c) l) {W : World} (hW : W.heap = w.heap) (hT : Touch (fp r (.slice a l.length c)) w W) (hn : n ≤ l.length) (hp : 0 < l.length) :
    Turned w r (.slice a l.length c) room first (l.take n) (W.setCell ⟨r, 2, none⟩ (.slice a n n)) := by
  have hne := h.ne_
  obtain ⟨a', c', hv, _, _, hs⟩ := h.slc
  cases hv
  obtain ⟨g, rfl, hgr, _⟩ := hs hp
  have hb := h.1.heap_eq hW
  have hlen : (l.take n).length = n := by simp [hn]
  have hcut := h.2.cut hn
  have hW2 : On W 98 67 (.slice (some ⟨g, 0, none⟩) n n) n ((flat cs l).take (n * 67)) := hcut.heap_eq hW
  refine ⟨.slice (some ⟨g, 0, none⟩) n n, ⟨hb.set_ 2 _, ?_⟩, hT.setCell (.inl (.inl rfl)) _, fun k hk => .inl hk⟩
  have := hW2.far (p := ⟨r, 2, none⟩) (by exact hne) (.slice (some ⟨g, 0, none⟩) n n)
  rw [hlen, ← flat_take cs_len]
  exact this

set_option maxRecDepth 100000 in
set_option maxHeartbeats 2000000 in
theorem cut_any (w : World) (r : Nat) (room first n : Int) (sv : Value) (l : List NT) (h : At w r room first sv l) (h0 : 0 ≤ first) (h1 : first + l.length ≤ 4611686018427387904) :
    Calls Tryz.prog 64 #[.pointer (some ⟨r, 0, none⟩), .int .i64 n] w fun e w' => e = .returned (.tuple #[]) ∧ Turned w r sv room first (cutL first l n) w' := by
  obtain ⟨⟨c0, c1, c2⟩, f0, f1, f2⟩ := h.cells
  have hp := Lib.hid (next_any w r room first sv l h h0 h1)
  obtain ⟨a, c, rfl, hlc, hcm⟩ := h.2.slice
  unfold maxLen at hcm
  by_cases b0 : n < first
  · by_cases hl : 0 < l.length
    · have hlt : first < first + (l.length : Int) := by omega
      have e4 := Lib.hid (show cutL first l n = l.take 0 by rw [cutL, if_pos (by omega)]; congr 1; omega)
      go_enter Tryz.func64, Tryz.ntmps64
      go_wp2_with fail
      refine hp.out.mono ?_
      rintro e w' ⟨rfl, nq, rfl⟩
      go_wp2_with fail
      go_region
      all_goals
        go_wp2_with fail
        refine bodyPost_end (results_none rfl _ _ _) rfl ⟨rfl, ?_⟩
        rw [e4.out]
        exact cut_ok h (by rfl) (touch_same _ _ _) (Nat.zero_le _) hl
    · have hlt : ¬ first < first + (l.length : Int) := by omega
      have e4 := Lib.hid (show cutL first l n = l by rw [cutL]; split <;> first | rfl | (rw [List.take_of_length_le (by omega)]))
      go_enter Tryz.func64, Tryz.ntmps64
      go_wp2_with fail
      refine hp.out.mono ?_
      rintro e w' ⟨rfl, nq, rfl⟩
      go_wp2_with fail
      refine bodyPost_end (results_none rfl _ _ _) rfl ⟨rfl, ?_⟩
      rw [e4.out]
      exact .same h rfl (touch_same _ _ _)
  · by_cases hl : n < first + (l.length : Int)
    · obtain ⟨j, hj⟩ : ∃ j : Nat, n - first = (j : Int) := ⟨(n - first).toNat, by omega⟩
      have hjl : j < l.length := by omega
      have e4 := Lib.hid (show cutL first l n = l.take j by rw [cutL, if_pos hl, hj, Int.toNat_natCast])
      have hj0 : (0 : Int) ≤ (j : Int) := by omega
      go_enter Tryz.func64, Tryz.ntmps64
      go_wp2_with fail
      refine hp.out.mono ?_
      rintro e w' ⟨rfl, nq, rfl⟩
      go_wp2_with fail
      go_region
      all_goals
        go_wp2_with fail
        refine bodyPost_end (results_none rfl _ _ _) rfl ⟨rfl, ?_⟩
        rw [e4.out]
        exact cut_ok h (by rfl) (touch_same _ _ _) (Nat.le_of_lt hjl) (by omega)
    · have e4 := Lib.hid (show cutL first l n = l by rw [cutL, if_neg hl])
      go_enter Tryz.func64, Tryz.ntmps64
      go_wp2_with fail
      refine hp.out.mono ?_
      rintro e w' ⟨rfl, nq, rfl⟩
      go_wp2_with fail
      refine bodyPost_end (results_none rfl _ _ _) rfl ⟨rfl, ?_⟩
      rw [e4.out]
      exact .same h rfl (touch_same _ _ _)

theorem touch_two {w W w1 : World} {r : Nat} {sv : Value} {row : Option Nat} (hT : Touch (fp r sv) w W) (hg : W.grownBy w1 row) (hr : ∀ k, row = some k → fp r sv k) (u1 u2 : Value) : Touch (fp r sv) w ((w1.setCell ⟨r, 2, none⟩ u1).setCell ⟨r, 1, none⟩ u2) :=
  ((hT.grown hg (fun k hk => Or.inl (hr k hk))).setCell (p := ⟨r, 2, none⟩) (Or.inl (Or.inl rfl)) _).setCell (p := ⟨r, 1, none⟩) (Or.inl (Or.inl rfl)) _

def dropF (first : Int) (len : Nat) (n : Int) : Int := if n ≤ first then first else first + min (n - first) len
def dropL (first : Int) (l : List NT) (n : Int) : List NT := if n ≤ first then l else l.drop (n - first).toNat

end Go.Proofs.YtckkpgopddnkiaaGreat.RingE
namespace Go.Proofs.YtckkpgopddnkiaaGreat.RingE
open Go.RowKit Go.Shelf Go.Proofs.YtckkpgopddnkiaaGreat.Gm
set_option linter.all false
/-- A load of an entry, shut: in a walk inside a fence the operation is opened to this. -/
def loadE (v : Value) : Sem Value := Instr.loadAt 98 v
theorem loadAt_E (v : Value) : Instr.loadAt 98 v = loadE v := rfl
def loadJ (w : World) (r : Result Value) : Option (List Value) → Result Value
  | some L => .ok (.agg L.toArray) w
  | none => r
theorem loadJ_none (w : World) (r : Result Value) : loadJ w r none = r := rfl
theorem loadJ_some (w : World) (r : Result Value) (L : List Value) : loadJ w r (some L) = .ok (.agg L.toArray) w := rfl
def loadE0 (P : Program) (v : Value) (w : World) : Result Value := Sem.run P (Instr.loadAt 98 v) w
theorem run_loadE (w : World) (g o : Nat) : Sem.run Tryz.prog (loadE (.pointer (some ⟨g, o, none⟩))) w = loadJ w (loadE0 Tryz.prog (.pointer (some ⟨g, o, none⟩)) w) (rowIn w g o 67) := by
  cases h : rowIn w g o 67 with
  | none => rw [loadJ_none]; unfold loadE0 loadE; exact Eq.refl _
  | some L =>
    obtain ⟨hr, hl⟩ := of_rowIn h
    rw [loadJ_some]
    unfold loadE
    exact run_loadAt_mid w g o 98 L _ hr Tryz.underlying98 rfl (by rw [hl]; exact infoE)
attribute [local go_sem] Oper.semAt_some
attribute [local go_sem ↓] loadAt_E
attribute [local go_sem] run_loadE loadJ_some rowIn_drew

/-- What has come when k rounds are over. -/
def upto {α : Type} (f : Nat → α) (k : Nat) : List α := (List.range k).map f
theorem upto_succ {α : Type} (f : Nat → α) (k : Nat) : upto f (k + 1) = upto f k ++ [f k] := by simp [upto, List.range_succ]
theorem upto_length {α : Type} (f : Nat → α) (k : Nat) : (upto f k).length = k := by simp [upto]
def encs (x : Int × NT) : Array Value := #[.int .i64 x.1, .agg (cs x.2).toArray]
def ntAt (l : List NT) (j : Nat) : NT := l.getD j none0
theorem ntAt_some {l : List NT} {j : Nat} (h : j < l.length) : l[j]? = some (ntAt l j) := by simp [ntAt, List.getD, h]
def backF (first : Int) (l : List NT) (j : Nat) : Int × NT := (first + ((l.length - 1 - j : Nat) : Int), ntAt l (l.length - 1 - j))

/-- These blocks are kept. -/
def KeepB (K : Nat → Prop) (A B : World) : Prop := ∀ k, K k → B.heap[k]? = A.heap[k]?
theorem keepB_t {K : Nat → Prop} {A B C : World} (h : KeepB K A B) (h' : KeepB K B C) : KeepB K A C := fun k hk => (h' k hk).trans (h k hk)
theorem keepB_b {K : Nat → Prop} {m : Nat} (hK : ∀ k, K k → k < m) (W : World) (l : Nat) (o o' : Obj) (hl : m ≤ l) (_ : W.heap[l]? = some o) (_ : o.isCells = false) (_ : o.isWalk = false) : KeepB K W (W.putObj l o') :=
  fun k hk => World.putObj_heap_other (by have := hK k hk; omega)
theorem keepB_refl {K : Nat → Prop} (A : World) : KeepB K A A := fun _ _ => rfl
theorem At.keep {K : Nat → Prop} {w w' : World} {r : Nat} {room first : Int} {sv : Value} {l : List NT} (h : At w r room first sv l) (hb : KeepB K w w') (hB : ∀ k, fp r sv k → K k) : At w' r room first sv l :=
  ⟨(hb r (hB r (.inl rfl))).trans h.1, h.2.of_heap fun g hg => hb g (hB g (.inr hg))⟩
theorem cell_keep {K : Nat → Prop} {w w' : World} {b o : Nat} {v : Value} (h : w.cell? ⟨b, o, none⟩ = some v) (hb : KeepB K w w') (hK : K b) : w'.cell? ⟨b, o, none⟩ = some v :=
  (World.cell?_of_block (w := w) (a := ⟨b, o, none⟩) (hb b hK)).trans h

def BackPost (K : Nat → Prop) (J Jx : List (Int × NT) → World → Prop) (xs : List (Int × NT)) (W1 : World) (b : Bool) (W' : World) : Prop := if b = true then J xs W' ∧ KeepB K W1 W' else Jx xs W'

end Go.Proofs.YtckkpgopddnkiaaGreat.RingE
