/-
  Texts joined: StoreR, NetG, Gsums, RingE, RingEB, RingEC, RingED, RingEE, Open. No condition.
-/
import Derived.Test.YtlhoffhagfhbcaaBDiff10
import Derived.Deep.RegionHeld3
import Derived.Test.YtlhoffhagfhbcaaProg
import Derived.Great.BuildSlice
import Derived.RangeFuncNested
import Derived.RangeFuncBound
import Derived.RangeFuncCalls
import Derived.RangeFuncLeaves
import Derived.RangeFuncFrom
import Derived.RangeFuncBox
import Derived.Shelf.Abstract
import Derived.Shelf.RegionOpen
import Derived.OwnWalkIn
import Derived.TacticsInMore
import Derived.LoopNIn
import Derived.LoopIn
import Derived.ProofKit
import Derived.OpenShut
namespace Go.Proofs.Ytlhoffhagfhbcaa.Gm
open Go.RowKit Go.Sort Go.Proofs.Ytlhoffhagfhbcaa.Num
set_option linter.all false

def storeR (P : Program) (t : TypeId) (p v : Value) (w : World) : Result Next := (Sem.run P (Instr.storeAt t p v) w).andThen fun _ w' => .ok .skip w'
section
variable (ev : Operand → Value) (dst : Option Tmp) (x y : Operand) (ty : TypeId) (pos : String) (after : Array Edge) (guard : Option (Nat × Bool)) (w : World)
theorem exec_store (t : TypeId) : (execOp ev { dst := dst, op := Op.store t x y, type := ty, pos := pos, after := after, guard := guard }).run Try.prog w = storeR Try.prog t (ev x) (ev y) w := by
  unfold execOp storeR
  simp only [Sem.run_bind, Sem.run_pure]
theorem exec_load (t : TypeId) : (execOp ev { dst := dst, op := Op.load t x, type := ty, pos := pos, after := after, guard := guard }).run Try.prog w = loadR Try.prog t (ev x) w := by
  unfold execOp loadR
  simp only [Sem.run_bind, Sem.run_pure]
theorem exec_st33 : (execOp ev { dst := dst, op := Op.store 31 x y, type := ty, pos := pos, after := after, guard := guard }).run Try.prog w = storeR Try.prog 31 (ev x) (ev y) w := exec_store ..
theorem exec_st26 : (execOp ev { dst := dst, op := Op.store 24 x y, type := ty, pos := pos, after := after, guard := guard }).run Try.prog w = storeR Try.prog 24 (ev x) (ev y) w := exec_store ..
theorem exec_st29 : (execOp ev { dst := dst, op := Op.store 27 x y, type := ty, pos := pos, after := after, guard := guard }).run Try.prog w = storeR Try.prog 27 (ev x) (ev y) w := exec_store ..
theorem exec_ld26 : (execOp ev { dst := dst, op := Op.load 24 x, type := ty, pos := pos, after := after, guard := guard }).run Try.prog w = loadR Try.prog 24 (ev x) w := exec_load ..
theorem exec_ld29 : (execOp ev { dst := dst, op := Op.load 27 x, type := ty, pos := pos, after := after, guard := guard }).run Try.prog w = loadR Try.prog 27 (ev x) w := exec_load ..
end
theorem storeR_mid {w w' : World} {b o : Nat} {ty : TypeId} {cells : Array Value} (ht : w.there b o cells.size) (hi : (Try.prog.info? ty).map (·.size) = some cells.size) (h1 : cells.all (·.oneCell') = true) (hw : w.setCells b o cells.toList = w') :
    storeR Try.prog ty (.pointer (some ⟨b, o, none⟩)) (.agg cells) w = .ok .skip w' := by
  unfold storeR
  rw [run_storeAt_mid w b o ty cells ht hi h1, hw]
  rfl
/-- A row of cells, if it is there. -/
def rowIn (w : World) (g o n : Nat) : Option (List Value) := (List.range n).mapM fun j => w.cell? ⟨g, o + j, none⟩
theorem rowIn_aux (w : World) (g o : Nat) : ∀ (L : List Value) (k : Nat), (∀ j v, L[j]? = some v → w.cell? ⟨g, o + (k + j), none⟩ = some v) → (List.range' k L.length).mapM (fun j => w.cell? ⟨g, o + j, none⟩) = some L
  | [], k, _ => rfl
  | v :: L, k, h => by
    have h0 := h 0 v rfl
    have hr := rowIn_aux w g o L (k + 1) (fun j u hj => by
      have := h (j + 1) u (by simpa using hj)
      rw [← this]
      congr 2
      omega)
    rw [List.length_cons, List.range'_succ, List.mapM_cons]
    rw [Nat.add_zero] at h0
    rw [h0, hr]
    rfl
theorem rowIn_of {w : World} {g o n : Nat} {L : List Value} (h : w.rangeAt g o L) (hn : L.length = n) : rowIn w g o n = some L := by
  unfold rowIn
  rw [List.range_eq_range', ← hn]
  exact rowIn_aux w g o L 0 (fun j v hj => by rw [Nat.zero_add]; exact h j v hj)
theorem rowIn_drew (w : World) (g o n : Nat) : rowIn w.drew g o n = rowIn w g o n := rfl
theorem of_rowIn {w : World} {g o n : Nat} {L : List Value} (h : rowIn w g o n = some L) : w.rangeAt g o L ∧ L.length = n := by
  unfold rowIn at h
  rw [List.range_eq_range'] at h
  have key : ∀ (n k : Nat) (L : List Value), (List.range' k n).mapM (fun j => w.cell? ⟨g, o + j, none⟩) = some L → L.length = n ∧ ∀ j v, L[j]? = some v → w.cell? ⟨g, o + (k + j), none⟩ = some v := by
    intro n
    induction n with
    | zero => intro k L h; cases h; exact ⟨rfl, fun j v hj => by simp at hj⟩
    | succ n ih =>
      intro k L h
      rw [List.range'_succ, List.mapM_cons] at h
      cases h0 : w.cell? ⟨g, o + k, none⟩ with
      | none => rw [h0] at h; cases h
      | some v0 =>
        rw [h0] at h
        cases h1 : (List.range' (k + 1) n).mapM (fun j => w.cell? ⟨g, o + j, none⟩) with
        | none => rw [h1] at h; cases h
        | some L1 =>
          rw [h1] at h
          cases h
          obtain ⟨hl, hc⟩ := ih (k + 1) L1 h1
          refine ⟨by simp [hl], fun j v hj => ?_⟩
          cases j with
          | zero => simp at hj; rw [← hj]; simpa using h0
          | succ j => have := hc j v (by simpa using hj); rw [← this]; congr 2; omega
  obtain ⟨hl, hc⟩ := key n 0 L h
  exact ⟨fun j v hj => by have := hc j v hj; rwa [Nat.zero_add] at this, hl⟩
def loadI (w : World) (r : Result Next) : Option (List Value) → Result Next
  | some L => .ok (.value (.agg L.toArray)) w
  | none => r
theorem loadI_none (w : World) (r : Result Next) : loadI w r none = r := rfl
theorem loadI_some (w : World) (r : Result Next) (L : List Value) : loadI w r (some L) = .ok (.value (.agg L.toArray)) w := rfl
def loadR0 (P : Program) (t : TypeId) (v : Value) (w : World) : Result Next := loadR P t v w
theorem loadR_mid {ty : TypeId} {n : Nat} (w : World) (g o : Nat) (d : TypeDesc) (hu : Try.prog.underlying ty = some d) (hd : d.isRow = true) (hi : (Try.prog.info? ty).map (·.size) = some n) :
    loadR Try.prog ty (.pointer (some ⟨g, o, none⟩)) w = loadI w (loadR0 Try.prog ty (.pointer (some ⟨g, o, none⟩)) w) (rowIn w g o n) := by
  cases h : rowIn w g o n with
  | none => rw [loadI_none]; unfold loadR0; exact Eq.refl _
  | some L =>
    obtain ⟨hr, hl⟩ := of_rowIn h
    rw [loadI_some]
    unfold loadR
    rw [run_loadAt_mid w g o ty L d hr hu hd (by rw [hl]; exact hi)]
    rfl
theorem loadR26 (w : World) (g o : Nat) : loadR Try.prog 24 (.pointer (some ⟨g, o, none⟩)) w = loadI w (loadR0 Try.prog 24 (.pointer (some ⟨g, o, none⟩)) w) (rowIn w g o 7) :=
  loadR_mid w g o _ Try.underlying24 rfl infoB
theorem loadR29 (w : World) (g o : Nat) : loadR Try.prog 27 (.pointer (some ⟨g, o, none⟩)) w = loadI w (loadR0 Try.prog 27 (.pointer (some ⟨g, o, none⟩)) w) (rowIn w g o 6) :=
  loadR_mid w g o _ Try.underlying27 rfl infoS
end Go.Proofs.Ytlhoffhagfhbcaa.Gm
namespace Go.Proofs.Ytlhoffhagfhbcaa.Netw
open Go.RowKit
set_option linter.all false

set_option maxRecDepth 100000 in
set_option maxHeartbeats 2000000 in
theorem same_bytes (w : World) (a b : Option Addr) (l c c' : Nat) (zs : List Int) (ha : Row .u8 w a l zs) (hb : Row .u8 w b l zs) (hl : l ≤ 9223372036854775807) :
    Calls Try.prog 30 #[.slice a l c, .slice b l c'] w fun e w' => e = .returned (.bool true) ∧ Below w.heap.size w w' := by
  go_enter Try.func30, Try.ntmps30
  go_wp2_with fail
  go_loopw [5] (fun i wr => ∃ k : Nat, k ≤ l ∧ i = .int .i64 k ∧ ∃ nn, wr = w.drewN nn) (fun i _ => l - (intOf i).toNat)
  case atStart => exact ⟨0, Nat.zero_le _, rfl, 0, rfl⟩
  case round =>
    obtain ⟨k, hk, rfl, nn, rfl⟩ := hrel
    by_cases hlt : k < l
    · obtain ⟨ga, oa, rfl, hga, ca⟩ := ha.2 (by omega)
      obtain ⟨gb, ob, rfl, hgb, cb⟩ := hb.2 (by omega)
      have r1 := ca k hlt
      have r2 := cb k hlt
      have i1 : (0 : Int) ≤ (k : Int) := by omega
      have i2 : (k : Int) < (l : Int) := by omega
      clear ca cb ha hb
      generalize nth zs k = vv at r1 r2
      go_wp2_with fail
      go_quiet (fail)
      go_wp2_with fail
      go_roundw
      case rel => exact ⟨k + 1, by omega, by go_num, _, rfl⟩
      case measure => simp [intOf]; omega
    · obtain rfl : k = l := by omega
      go_wp2_with fail
      go_ret
      exact ⟨rfl, below_drewN (Below.refl _ _) _⟩
end Go.Proofs.Ytlhoffhagfhbcaa.Netw
namespace Go.Proofs.Ytlhoffhagfhbcaa.Gm
open Go.RowKit Go.Sort Go.Proofs.Ytlhoffhagfhbcaa.Num Go.Proofs.Ytlhoffhagfhbcaa.Byt
set_option linter.all false
attribute [local go_sem ↓] exec33
attribute [local go_sem] loadR_at cellsAt_drew

theorem nth_some {l : List Int} {k : Nat} (h : k < l.length) : l[k]? = some (nth l k) := by simp [nth, List.getD, h]
theorem out_row {w : World} {v : Value} {xs : List Int} (h : Out w v xs) : ∃ a c, v = .slice a xs.length c ∧ Row .u8 w a xs.length xs := by
  rcases On.form h with ⟨rfl, hn, hx⟩ | ⟨g, cap, rfl, hnc, hcm, how, hgl, hcell, hfr⟩
  · exact ⟨none, 0, by rw [hn], rfl, fun hp => by omega⟩
  · refine ⟨_, _, rfl, rfl, fun hp => ⟨g, 0, rfl, hgl, fun j hj => ?_⟩⟩
    rw [Nat.zero_add]
    exact hcell j _ (by unfold ub; rw [List.getElem?_map, nth_some hj]; rfl)
theorem Row.below8 {w w' : World} {a : Option Addr} {len : Nat} {zs : List Int} (h : Row .u8 w a len zs) (hb : Below w.heap.size w w') : Row .u8 w' a len zs := h.below hb

set_option maxRecDepth 100000 in
set_option maxHeartbeats 8000000 in
theorem sums_law (w : World) (f : F) (hw : Wf f) : Calls Try.prog 7 #[stV f] w fun e w' => e = .returned (.bool true) ∧ Below w.heap.size w w' := by
  obtain ⟨C, LC⟩ := let_of f
  obtain ⟨W1, hW1⟩ : ∃ W1, W1 = w.alloc (.cells C 31) := ⟨_, rfl⟩
  have hX : Blk W1 w.heap.size 31 C := by rw [hW1]; exact Blk.new _ _ _
  have hB : Below w.heap.size w W1 := by rw [hW1]; exact (Below.refl _ w).alloc (Nat.le_refl _) _
  have hlen := stB_len f
  have pA := Lib.hid (fun W => awake_any W)
  have pB := Lib.hid (fun W => bytes_any W f hw)
  have pR := Lib.hid (fun W => rstB_any W f hw)
  have pS := Lib.hid (fun W => sum_any W f hw)
  have pT := Lib.hid (fun W => rsum_any W f hw)
  unfold stV at pB pR pS pT ⊢
  rw [← LC.eq] at pB pR pS pT ⊢
  obtain ⟨L, hL⟩ : ∃ L, stB f = L := ⟨_, rfl⟩
  rw [hL] at pB pR pS pT hlen
  have hsz := LC.size
  have c0 : cellsAt W1.drew w.heap.size = C := cellsAt_blk hX
  have hX' := Lib.hid hX
  have HLEN := Lib.hid hlen
  have HB := Lib.hid hB
  clear hX hw LC hL hlen hB
  go_enter Try.func7, Try.ntmps7
  go_upto_region 1 with fail
  rw [← hW1]
  clear hW1
  generalize sumL L = sm at *
  go_region_held3 (fun w' => cellsAt w' w.heap.size = C) (first | exact c0 | exact cellsAt_blk XA | exact cellsAt_blk XB | exact cellsAt_blk XR | exact cellsAt_blk XM | exact cellsAt_blk XS | exact cellsAt_blk XT)
    (first
      | (go_at_call 29; refine (pA.out _).mono ?_; rintro e wA ⟨rfl, bA⟩; have XA : Blk wA w.heap.size 31 C := (Blk.drew hX'.out).below bA hX'.out.lt; have YA : Below w.heap.size w wA := HB.out.drew.trans (bA.mono HB.out.size))
      | (go_at_call 31; refine (pB.out _).mono ?_; rintro e wB ⟨vB, rfl, RB⟩; have XB : Blk wB w.heap.size 31 C := (by first | exact XR.below RB.below XR.lt | exact XA.below RB.below XA.lt); have YB : Below w.heap.size w wB := (by first | exact YR.trans (RB.below.mono YR.size) | exact YA.trans (RB.below.mono YA.size)); obtain ⟨aB, cB, rfl, rowB⟩ := out_row RB.out)
      | (go_at_call 32; refine (pR.out _).mono ?_; rintro e wR ⟨vR, rfl, RR⟩; have XR : Blk wR w.heap.size 31 C := (by first | exact XB.below RR.below XB.lt | exact XA.below RR.below XA.lt); have YR : Below w.heap.size w wR := (by first | exact YB.trans (RR.below.mono YB.size) | exact YA.trans (RR.below.mono YA.size)); obtain ⟨aR, cR, rfl, rowR⟩ := out_row RR.out)
      | (go_at_call 30; refine (Netw.same_bytes _ aB aR L.length cB cR L (by first | exact rowB.below RR.below | exact rowB) (by first | exact rowR.below RB.below | exact rowR) (by have := HLEN.out; omega)).mono ?_; rintro e wM ⟨rfl, bM⟩; have XM : Blk wM w.heap.size 31 C := (by first | exact XR.below bM XR.lt | exact XB.below bM XB.lt); have YM : Below w.heap.size w wM := (by first | exact YR.trans (bM.mono YR.size) | exact YB.trans (bM.mono YB.size)))
      | (go_at_call 33; refine (pS.out _).mono ?_; rintro e wS ⟨rfl, bS⟩; have XS : Blk wS w.heap.size 31 C := (by first | exact XT.below bS XT.lt | exact XM.below bS XM.lt); have YS : Below w.heap.size w wS := (by first | exact YT.trans (bS.mono YT.size) | exact YM.trans (bS.mono YM.size)))
      | (go_at_call 34; refine (pT.out _).mono ?_; rintro e wT ⟨rfl, bT⟩; have XT : Blk wT w.heap.size 31 C := (by first | exact XS.below bT XS.lt | exact XM.below bT XM.lt); have YT : Below w.heap.size w wT := (by first | exact YS.trans (bT.mono YS.size) | exact YM.trans (bT.mono YM.size))))
  all_goals
    go_wp2_with fail
    go_ret
    first
      | exact ⟨rfl, YT⟩
      | exact ⟨rfl, YS⟩
      | exact ⟨ret_bool (by simp), YT⟩
      | exact ⟨ret_bool (by simp), YS⟩
end Go.Proofs.Ytlhoffhagfhbcaa.Gm
namespace Go.Proofs.Ytlhoffhagfhbcaa.RingE
open Go.RowKit Go.Sort Go.Proofs.Ytlhoffhagfhbcaa.Gm
set_option linter.all false

abbrev NT := F × Int
def cs (x : NT) : List Value := (stA x.1).toList ++ [.int .u32 x.2]
theorem cs_len : ∀ x, (cs x).length = 67 := fun x => by simp [cs, stA]
theorem cs_one : ∀ x, ∀ u ∈ cs x, u.oneCell' = true := by
  intro x u hu
  rcases List.mem_append.1 hu with h | h
  · exact (Array.all_eq_true_iff_forall_mem.1 (stA_one x.1)) u (by simpa using h)
  · obtain rfl := List.mem_singleton.1 h
    rfl
theorem info : (Try.prog.info? 170).map (fun i => (i.zero, i.size, i.bytes)) = some (some (.agg Try.zeroCells170), 67, 536) := by kernel_rfl
theorem infoE : (Try.prog.info? 170).map (·.size) = some 67 := by kernel_rfl

/-- A ring in memory: its block, and its list. -/
def At (w : World) (r : Nat) (room first : Int) (sv : Value) (l : List NT) : Prop :=
  Blk w r 186 #[.int .i64 room, .int .i64 first, sv] ∧ On w 170 67 sv l.length (flat cs l)
def fp (r : Nat) (sv : Value) : Nat → Prop := fun k => k = r ∨ sv.ownBlock = some k
section
variable {S : Nat → Prop} {w w' : World} {r : Nat} {room first : Int} {sv : Value} {l : List NT}
theorem At.lt (h : At w r room first sv l) : ∀ k, fp r sv k → k < w.heap.size := fun k hk => hk.elim (fun e => e ▸ h.1.lt) (fun e => h.2.lt k e)
theorem At.ne_ (h : At w r room first sv l) : sv.ownBlock ≠ some r := h.2.blk_ne h.1 (by decide)
theorem At.drewN (h : At w r room first sv l) (n : Nat) : At (w.drewN n) r room first sv l := h
theorem At.drew (h : At w r room first sv l) : At w.drew r room first sv l := h
theorem At.alloc (h : At w r room first sv l) (o : Obj) : At (w.alloc o) r room first sv l := ⟨h.1.alloc o, h.2.alloc o⟩
theorem At.heap_eq (h : At w r room first sv l) (hW : w'.heap = w.heap) : At w' r room first sv l := ⟨h.1.heap_eq hW, h.2.heap_eq hW⟩
theorem At.touch (h : At w r room first sv l) (ht : Touch S w w') (hS : ∀ k, fp r sv k → ¬ S k) : At w' r room first sv l := ⟨h.1.touch ht (hS r (.inl rfl)), h.2.touch ht fun g hg => hS g (.inr hg)⟩
theorem At.below (h : At w r room first sv l) (hb : Below w.heap.size w w') : At w' r room first sv l := ⟨h.1.below hb h.1.lt, h.2.below hb h.2.lt⟩
theorem At.cells (h : At w r room first sv l) : (w.cell? ⟨r, 0, none⟩ = some (.int .i64 room) ∧ w.cell? ⟨r, 1, none⟩ = some (.int .i64 first) ∧ w.cell? ⟨r, 2, none⟩ = some sv) ∧
    (w.frozen? ⟨r, 0, none⟩ = false ∧ w.frozen? ⟨r, 1, none⟩ = false ∧ w.frozen? ⟨r, 2, none⟩ = false) :=
  ⟨⟨h.1.cell 0, h.1.cell 1, h.1.cell 2⟩, h.1.frozen 0, h.1.frozen 1, h.1.frozen 2⟩
theorem At.slc (h : At w r room first sv l) : ∃ a c, sv = .slice a l.length c ∧ l.length ≤ c ∧ c ≤ maxLen ∧ (0 < l.length → ∃ g, a = some ⟨g, 0, none⟩ ∧ g ≠ r ∧ ∀ j x, l[j]? = some x → w.rangeAt g (j * 67) (cs x)) := by
  have hne := h.ne_
  rcases h.2.form with ⟨rfl, h0, _⟩ | ⟨g, cap, hv, hnc, hcm, hown, hlt, hc, hf⟩
  · exact ⟨none, 0, by rw [h0], by omega, by simp [maxLen], fun hp => by omega⟩
  · refine ⟨_, cap, hv, hnc, hcm, fun _ => ⟨g, rfl, fun e => hne (by rw [hown, e]), fun j x hx i v hi => ?_⟩⟩
    have hil : i < 67 := by
      have := (List.getElem?_eq_some_iff.1 hi).1
      rwa [cs_len] at this
    exact hc (j * 67 + i) _ (by rw [flat_get cs_len l hx hil]; exact hi)
end
set_option maxHeartbeats 400000 in
theorem first_any (w : World) (r : Nat) (room first : Int) (sv : Value) (l : List NT) (h : At w r room first sv l) :
    Calls Try.prog 114 #[.pointer (some ⟨r, 0, none⟩)] w fun e w' => e = .returned (.int .i64 first) ∧ w = w' := by
  obtain ⟨⟨c0, c1, c2⟩, f0, f1, f2⟩ := h.cells
  go_enter Try.func114, Try.ntmps114
  go_wp2
  go_ret
  exact ⟨rfl, rfl⟩

set_option maxHeartbeats 400000 in
theorem len_any (w : World) (r : Nat) (room first : Int) (sv : Value) (l : List NT) (h : At w r room first sv l) :
    Calls Try.prog 111 #[.pointer (some ⟨r, 0, none⟩)] w fun e w' => e = .returned (.int .i64 l.length) ∧ w = w' := by
  obtain ⟨⟨c0, c1, c2⟩, f0, f1, f2⟩ := h.cells
  obtain ⟨a, c, rfl, hlc, hcm, hsv⟩ := h.slc
  go_enter Try.func111, Try.ntmps111
  go_wp2
  go_ret
  exact ⟨rfl, rfl⟩

set_option maxHeartbeats 400000 in
theorem next_any (w : World) (r : Nat) (room first : Int) (sv : Value) (l : List NT) (h : At w r room first sv l) (h0 : 0 ≤ first) (h1 : first + l.length ≤ 4611686018427387904) :
    Calls Try.prog 112 #[.pointer (some ⟨r, 0, none⟩)] w fun e w' => e = .returned (.int .i64 (first + l.length)) ∧ ∃ n, w' = w.drewN n := by
  obtain ⟨⟨c0, c1, c2⟩, f0, f1, f2⟩ := h.cells
  obtain ⟨a, c, rfl, hlc, hcm, hsv⟩ := h.slc
  go_enter Try.func112, Try.ntmps112
  go_wp2
  go_quiet (fail)
  go_wp2
  go_ret
  exact ⟨rfl, nq, rfl⟩

/-- Where an entry stands. -/
def placeB (first : Int) (len : Nat) (n : Int) : Int := if n < first then -1 else if n - first ≥ len then -1 else n - first

set_option maxHeartbeats 400000 in
theorem new_ok (n : Int) (w : World) (h : 1 ≤ n) (h2 : n ≤ 4096) :
    Calls Try.prog 110 #[.int .i64 n] w fun e w' => e = .returned (.tuple #[.pointer (some ⟨w.heap.size, 0, none⟩), .int .i64 0]) ∧ w.alloc (.cells #[.int .i64 n, .int .i64 0, .slice none 0 0] 186) = w' := by
  go_enter Try.func110, Try.ntmps110
  go_wp2
  go_ret2
  exact ⟨rfl, rfl⟩

theorem at_new (w : World) (n : Int) : At (w.alloc (.cells #[.int .i64 n, .int .i64 0, .slice none 0 0] 186)) w.heap.size n 0 (.slice none 0 0) [] := ⟨Blk.new _ _ _, On.nil _ _ _⟩

set_option maxHeartbeats 400000 in
theorem new_no (n : Int) (w : World) (h : n < 1 ∨ 4096 < n) :
    Calls Try.prog 110 #[.int .i64 n] w fun e w' => e = .returned (.tuple #[.pointer none, .int .i64 1]) ∧ w = w' := by
  rcases h with h | h
  · go_enter Try.func110, Try.ntmps110
    go_wp2
    go_ret2
    exact ⟨rfl, rfl⟩
  · have h' : ¬ n < 1 := by omega
    go_enter Try.func110, Try.ntmps110
    go_wp2
    go_ret2
    exact ⟨rfl, rfl⟩


end Go.Proofs.Ytlhoffhagfhbcaa.RingE
namespace Go.Proofs.Ytlhoffhagfhbcaa.RingE
open Go.RowKit Go.Sort Go.Proofs.Ytlhoffhagfhbcaa.Gm
set_option linter.all false

/-- Two results, the first one in a cell. -/
theorem pair_results {fn : Func} (hfn : fn.results = #[.cell 4 170, .tmp 5]) (tmps : Array Value) (W : World) (g : Nat) (t : TypeId) (C : Array Value) (v : Value) (h : Blk W g t C) (hC : (Try.prog.info? 170).map (·.size) = some C.size)
    (h4 : tmps.getD 4 undef = .pointer (some ⟨g, 0, none⟩)) (h5 : tmps.getD 5 undef = v) : (results fn tmps).run Try.prog W = .ok (.tuple #[.agg C, v]) W := by
  have e4 : tmps[4]?.getD undef = .pointer (some ⟨g, 0, none⟩) := by simpa using h4
  have e5 : tmps[5]?.getD undef = v := by simpa using h5
  have hl := run_loadVar_row (P := Try.prog) W g t 170 C (0, 0) _ h Try.underlying170 rfl hC
  simp [results, hfn, e4, e5, asAddr, hl]
theorem zE : Try.zeroCells170 = (cs (zF, 0)).toArray := by kernel_rfl
/-- An entry's cells as a letter. -/
structure EL (C : Array Value) (x : NT) : Prop where
  eq : C.toList = cs x
  size : C.size = 67
  one : C.all (·.oneCell') = true
  info : (Try.prog.info? 170).map (·.size) = some C.size
theorem el_of (x : NT) : ∃ C, EL C x := by
  refine ⟨(cs x).toArray, rfl, by simp [cs_len], Array.all_eq_true_iff_forall_mem.2 (fun v hv => cs_one x v (by simpa using hv)), ?_⟩
  rw [infoE]
  simp [cs_len]
theorem EL.same {C D : Array Value} {x : NT} (h : EL C x) (h' : EL D x) : C = D := Array.ext' (h.eq.trans h'.eq.symm)
def none0 : NT := (zF, 0)
def atX (first : Int) (l : List NT) (n : Int) : NT := if n < first then none0 else l.getD (n - first).toNat none0
def atE (first : Int) (len : Nat) (n : Int) : Int := if n < first then 90 else if n - first ≥ len then 91 else 0

end Go.Proofs.Ytlhoffhagfhbcaa.RingE
namespace Go.Proofs.Ytlhoffhagfhbcaa.RingE
open Go.RowKit Go.Sort Go.Proofs.Ytlhoffhagfhbcaa.Gm
set_option linter.all false

theorem exec_ldE (ev : Operand → Value) (dst : Option Tmp) (x : Operand) (ty : TypeId) (pos : String) (after : Array Edge) (guard : Option (Nat × Bool)) (w : World) :
    (execOp ev { dst := dst, op := Op.load 170 x, type := ty, pos := pos, after := after, guard := guard }).run Try.prog w = loadR Try.prog 170 (ev x) w := exec_load ..
theorem loadRE_at (w : World) (g : Nat) (h : (cellsAt w g).size = 67) : loadR Try.prog 170 (.pointer (some ⟨g, 0, none⟩)) w = .ok (.value (.agg (cellsAt w g))) w := by
  obtain ⟨t, hg⟩ := cellsAt_inv (w := w) (g := g) (by omega)
  unfold loadR
  simp only [Instr.loadAt, Instr.sureAddr, Sem.run_bind, Sem.run_pure, Result.andThen_ok, run_loadVar_row w g t 170 (cellsAt w g) (0, 0) _ hg Try.underlying170 rfl (by rw [h]; exact infoE)]
def bsR (P : Program) (v : Value) (w : World) : Result Next := (Sem.run P (Instr.buildSlice 184 1 #[(0, v)]) w).andThen fun u w' => .ok (.value u) w'
theorem exec_bsE (ev : Operand → Value) (dst : Option Tmp) (x : Operand) (ty : TypeId) (pos : String) (after : Array Edge) (guard : Option (Nat × Bool)) (w : World) :
    (execOp ev { dst := dst, op := Op.buildSlice 184 1 #[(0, x)], type := ty, pos := pos, after := after, guard := guard }).run Try.prog w = bsR Try.prog (ev x) w := by
  unfold execOp bsR
  simp only [Sem.run_bind, Sem.run_pure, List.map_toArray, List.map_cons, List.map_nil]
theorem bsR_at (w : World) (E : Array Value) (h : E.size = 67) : bsR Try.prog (.agg E) w = .ok (.value (.slice (some ⟨w.heap.size, 0, none⟩) 1 1)) (w.alloc (.cells E 170)) := by
  obtain ⟨i0, hi0, hz0, hz1, hz2⟩ := info_parts info
  have hf := Great.fill_whole (s := 67) (by omega) [Value.agg E] ((Array.range (1 * i0.size)).map ((Value.agg Try.zeroCells170).cells[· % (Value.agg Try.zeroCells170).cells.size]!)) (fun v hv => by obtain rfl := List.mem_singleton.1 hv; exact h) (by simp [hz1])
  unfold bsR
  rw [run_buildSlice w 184 170 1 #[(0, .agg E)] E i0 _ Try.underlying184 hi0 hz0 (by rw [hz1]; omega) (by rw [hz1]; omega) (by
    rw [hz1] at hf ⊢
    refine hf.trans ?_
    simp [Value.cells])]
  rfl
attribute [local go_sem ↓] exec_ldE exec_bsE
attribute [local go_sem] loadRE_at bsR_at cellsAt_drew

/-- What a call leaves: a ring, in its own blocks or new ones; nothing else has turned. -/
def Turned (w : World) (r : Nat) (sv : Value) (room first : Int) (l : List NT) (w' : World) : Prop :=
  ∃ sv', At w' r room first sv' l ∧ Touch (fp r sv) w w' ∧ ∀ k, fp r sv' k → fp r sv k ∨ w.heap.size ≤ k

def putF (room first : Int) (l : List NT) : Int := if (l.length : Int) = room then first + 1 else first
def putL (room : Int) (l : List NT) (v : NT) : List NT := (if (l.length : Int) = room then l.drop 1 else l) ++ [v]

/-- The list's end, in new memory. -/
theorem shift_ok {w w1 W : World} {r g c k n : Nat} {room first : Int} {l : List NT} {a' : Option Addr} {c' : Nat} (h : At w r room first (.slice (some ⟨g, 0, none⟩) l.length c) l) (hW : W.heap = w.heap) (hg : W.grownBy w1 (Value.slice (some ⟨g, 0, none⟩) 0 0).ownBlock)
    (hT : Touch (fp r (.slice (some ⟨g, 0, none⟩) l.length c)) w W) (hn : n = (l.drop k).length)
    (hown : On w1 170 67 (.slice a' n c') n ((flat cs l).drop (k * 67))) (hat : (Value.slice a' n c').ownBlock = (Value.slice (some ⟨g, 0, none⟩) 0 0).ownBlock ∨ (Value.slice a' n c').ownBlock = some W.heap.size) (f' : Int) :
    Turned w r (.slice (some ⟨g, 0, none⟩) l.length c) room f' (l.drop k) ((w1.setCell ⟨r, 2, none⟩ (.slice a' n c')).setCell ⟨r, 1, none⟩ (.int .i64 f')) := by
  subst hn
  have hne := h.ne_
  have hb1 : Blk w1 r _ _ := Blk.grown' hg (by unfold Blk; rw [hW]; exact h.1) (by exact hne)
  have hb3 := (hb1.set_ 2 (.slice a' (l.drop k).length c')).set_ 1 (.int .i64 f')
  refine ⟨.slice a' (l.drop k).length c', ⟨hb3, ?_⟩, ?_, ?_⟩
  · have := (hown.far (p := ⟨r, 2, none⟩) (hown.blk_ne hb1 (by decide)) (.slice a' (l.drop k).length c')).far (p := ⟨r, 1, none⟩) (hown.blk_ne hb1 (by decide)) (.int .i64 f')
    rw [flat_drop cs_len] at this
    exact this
  · exact ((hT.grown hg (fun k hk => .inl (.inr hk))).setCell (.inl (.inl rfl)) _).setCell (.inl (.inl rfl)) _
  · exact fun k hk => hk.elim (fun e => .inl (.inl e)) (fun e => (own_le hat (by rw [hW]; exact Nat.le_refl _) k e).imp .inr id)

theorem Turned.base {w W w' : World} {r : Nat} {sv : Value} {room f : Int} {l : List NT} (h : Turned W r sv room f l w') (hb : Below w.heap.size w W) : Turned w r sv room f l w' := by
  obtain ⟨sv', hA, hT, hF⟩ := h
  exact ⟨sv', hA, (Touch.of_below (S := fp r sv) hb).trans hT (fun k hk => .inl hk), fun k hk => (hF k hk).imp id (fun e => Nat.le_trans hb.size e)⟩

set_option maxRecDepth 100000 in
set_option maxHeartbeats 4000000 in
theorem put_any (w : World) (r : Nat) (room first : Int) (x : NT) (E : Array Value) (LE : EL E x) (sv : Value) (l : List NT) (h : At w r room first sv l) (h0 : 0 ≤ first) (h1 : first + l.length ≤ 4611686018427387904) (hl : l.length ≤ 4096) (hroom : 0 < room) :
    Calls Try.prog 116 #[.pointer (some ⟨r, 0, none⟩), .agg E] w fun e w' => e = .returned (.int .i64 (first + l.length)) ∧ Turned w r sv room (putF room first l) (putL room l x) w' := by
  obtain ⟨i0, hi0, hz0, hz1, hz2⟩ := info_parts info
  have hb0 : Below w.heap.size w (w.alloc (.cells E 170)) := (Below.refl _ w).alloc (Nat.le_refl _) _
  have hbx : Blk (w.alloc (.cells E 170)) w.heap.size 170 E := Blk.new _ _ _
  have hlt0 := h.lt
  have hA := h.alloc (.cells E 170)
  obtain ⟨W0, hW0⟩ : ∃ W0, W0 = w.alloc (.cells E 170) := ⟨_, rfl⟩
  have hz : W0.heap.size = w.heap.size + 1 := by rw [hW0]; simp
  rw [← hW0] at hA hbx hb0
  have hbfp : ¬ fp r sv w.heap.size := fun e => by have := hlt0 _ e; omega
  clear h
  obtain ⟨⟨c0, c1, c2⟩, f0, f1, f2⟩ := hA.cells
  have hlt := hA.1.lt
  have hne := hA.ne_
  obtain ⟨a, c, rfl, hlc, hcm, hsv⟩ := hA.slc
  have hp := Lib.hid (next_any W0 r room first _ l hA h0 h1)
  have hsv' := Lib.hid hsv
  have HZ := Lib.hid hz
  clear hsv hz
  go_enter Try.func116, Try.ntmps116
  go_upto_region 1 with fail
  rw [← hW0]
  clear hW0
  go_wp2_with fail
  refine hp.out.mono ?_
  rintro e w' ⟨rfl, nq_1, rfl⟩
  go_wp2_with fail
  go_quiet (fail)
  go_upto_if 17 with fail
  go_cut [] (fun wx => Turned W0 r (.slice a l.length c) room (putF room first l) (if (l.length : Int) = room then l.drop 1 else l) wx)
  case first =>
    by_cases hr : ((l.length : Int) == room) = true
    · have hre : (l.length : Int) = room := by simpa using hr
      obtain ⟨g, rfl, hgr, hcell⟩ := hsv'.out (by omega)
      have hown0 : On W0 170 67 (.slice (some ⟨g, 0, none⟩) 0 0) 0 [] := by simpa using hA.2.cut (Nat.zero_le _)
      clear hcell
      unfold maxLen at hcm
      have hlp : (1 : Int) ≤ (l.length : Int) := by omega
      have hlp2 : (1 : Int) ≤ (c : Int) := by omega
      have hsrc := Lib.hid (src_drop_n hA.2 1)
      have hq1 : 0 + (l.length - 1) ≤ maxLen := by simp only [maxLen]; omega
      have hq2 : (0 + (l.length - 1)) * 536 ≤ 140737488355328 := by omega
      have hE := Lib.hid hre
      have hdl : ((flat cs l).drop (1 * 67)).length = (l.length - 1) * 67 := by rw [flat_drop cs_len, flat_len cs_len, List.length_drop]
      have hDL := Lib.hid hdl
      have hone : ∀ u ∈ (flat cs l).drop (1 * 67), u.oneCell' = true := fun u hu => one_flat cs_one l u (List.mem_of_mem_drop hu)
      have hONE := Lib.hid hone
      clear hre hdl hone
      by_cases hc1 : c = 1
      · subst hc1
        have hl1 := Lib.hid (show l.length = 1 by omega)
        go_wp2_with fail
        go_region_law (refine step_append_on _ (by rfl) (.tmp 23) (.tmp 28) _ (by rfl) 170 i0 _ 67 536 Try.underlying184 hi0 hz0 hz1 hz2 rfl (by omega) (.slice (some ⟨g, 0, none⟩) 0 0) 0 [] (by rfl) (by exact hown0) (some ⟨g, 0, none⟩) 0 0 [] (by rfl) (by rfl) (.inl ⟨rfl, rfl⟩) (fun _ hu => by cases hu) (by simp [maxLen]) (by omega) ?_; intro v' w1 hown1 hg1 hat1; obtain ⟨a', c', rfl, hlc', hcm'⟩ := hown1.slice; have hb1 := Blk.grown' hg1 (by exact hA.1) (by exact hne); have k1 : w1.cell? ⟨r, 1, none⟩ = some (.int .i64 first) := hb1.cell 1; have k2 : w1.cell? ⟨r, 2, none⟩ = some (.slice (some ⟨g, 0, none⟩) l.length 1) := hb1.cell 2; have kf := hb1.frozen 2; have kf1 := hb1.frozen 1)
        all_goals
          go_wp2_with fail
          go_meet
          have hd : l.drop 1 = [] := List.eq_nil_of_length_eq_zero (by rw [List.length_drop, hl1.out])
          simp only [Nat.add_zero, List.append_nil] at hown1 hat1
          rw [putF, if_pos hE.out, if_pos hE.out]
          exact shift_ok hA (by rfl) hg1 ⟨rfl, rfl, rfl, Nat.le_refl _, fun _ _ _ => rfl⟩ (by rw [hd]; rfl) (by rw [flat_drop cs_len, hd]; exact hown1) hat1 _
      · go_wp2_with fail
        go_region_law (refine step_append_on _ (by rfl) (.tmp 23) (.tmp 28) _ (by rfl) 170 i0 _ 67 536 Try.underlying184 hi0 hz0 hz1 hz2 rfl (by omega) (.slice (some ⟨g, 0, none⟩) 0 0) 0 [] (by rfl) (by exact hown0) (some ⟨g, 67, none⟩) (l.length - 1) (c - 1) ((flat cs l).drop (1 * 67)) (by rfl) (by exact hDL.out) (by exact hsrc.out) (by exact hONE.out) hq1 hq2 ?_; intro v' w1 hown1 hg1 hat1; obtain ⟨a', c', rfl, hlc', hcm'⟩ := hown1.slice; have hb1 := Blk.grown' hg1 (by exact hA.1) (by exact hne); have k1 : w1.cell? ⟨r, 1, none⟩ = some (.int .i64 first) := hb1.cell 1; have k2 : w1.cell? ⟨r, 2, none⟩ = some (.slice (some ⟨g, 0, none⟩) l.length c) := hb1.cell 2; have kf := hb1.frozen 2; have kf1 := hb1.frozen 1)
        all_goals
          go_wp2_with fail
          go_meet
          simp only [Nat.zero_add, List.nil_append] at hown1 hat1
          rw [putF, if_pos hE.out, if_pos hE.out]
          exact shift_ok hA (by rfl) hg1 ⟨rfl, rfl, rfl, Nat.le_refl _, fun _ _ _ => rfl⟩ (by simp) hown1 hat1 _
    · have hr2 : ((l.length : Int) == room) = false := by simpa using hr
      clear hr
      go_wp2_with fail
      go_meet
      have hne2 : ¬ (l.length : Int) = room := by simpa using hr2
      rw [putF, if_neg hne2, if_neg hne2]
      exact ⟨_, hA, ⟨rfl, rfl, rfl, Nat.le_refl _, fun _ _ _ => rfl⟩, fun k hk => .inl hk⟩
  case rest =>
    obtain ⟨sv1, hA1, hT, hF⟩ := hcut
    have hln : (if (l.length : Int) = room then l.drop 1 else l).length ≤ 4096 := by split <;> first | omega | (rw [List.length_drop]; omega)
    have hPL := Lib.hid (show putL room l x = (if (l.length : Int) = room then l.drop 1 else l) ++ [x] from rfl)
    generalize (if (l.length : Int) = room then l.drop 1 else l) = l1 at hA1 hln hPL
    obtain ⟨first1, hf1⟩ : ∃ x, x = putF room first l := ⟨_, rfl⟩
    rw [← hf1] at hA1
    have hfirst := Lib.hid hf1
    clear hf1
    obtain ⟨⟨d0, d1, d2⟩, e0, e1, e2⟩ := hA1.cells
    have hne1 := hA1.ne_
    clear hne
    have hbx1 := hbx.touch hT hbfp
    have cE : cellsAt wc w.heap.size = E := cellsAt_blk hbx1
    have hE67 := LE.size
    have hEone := Lib.hid (show ∀ u ∈ E.toList, u.oneCell' = true from fun u hu => (Array.all_eq_true_iff_forall_mem.1 LE.one) u (by simpa using hu))
    have hELn := Lib.hid (show E.toList.length = 1 * 67 by simp [LE.size])
    obtain ⟨a1, cc1, rfl, hlc1, hcm1⟩ := hA1.2.slice
    have hneb : (Value.slice a1 l1.length cc1).ownBlock ≠ some w.heap.size := fun e => (hF _ (.inr e)).elim hbfp (fun e2 => by have := HZ.out; omega)
    have hrn : ¬ r = w.heap.size := fun e => hbfp (.inl e.symm)
    have hTs := hT.size
    have hown := Lib.hid (fun (W : World) (hW : W.heap = wc.heap) => (On.heap_eq hA1.2 hW).alloc (.cells E 170))
    have hrlt := hA1.1.lt
    go_wp2_with fail
    go_region_law
      ((refine step_append_on _ (by rfl) (.tmp 43) (.tmp 45) _ (by rfl) 170 i0 _ 67 536 Try.underlying184 hi0 hz0 hz1 hz2 rfl (by omega) (.slice a1 l1.length cc1) _ _ (by rfl) (by exact hown.out _ (by rfl)) _ 1 1 E.toList (by rfl) hELn.out (by exact src_new _ _ 1 E.toList) hEone.out (by simp only [maxLen]; omega) (by omega) ?_; intro v' w1 hown1 hg1 hat1; have hb1 := Blk.grown' hg1 (by exact hA1.1.alloc _) (by exact hne1); have k2 := hb1.cell 2; have kf := hb1.frozen 2; have hbx2 := Blk.grown' hg1 (by exact hbx1.alloc _) (by exact hneb); have k3 := cellsAt_blk hbx2; obtain ⟨a', c', rfl, hlc', hcm'⟩ := hown1.slice))
    all_goals
      go_wp2_with fail
      go_ret
      rw [hPL.out, ← hfirst.out]
      refine ⟨rfl, Turned.base ⟨.slice a' (l1.length + 1) c', ⟨hb1.set_ 2 _, ?_⟩, ?_, ?_⟩ hb0⟩
      · have := hown1.far (p := ⟨r, 2, none⟩) (hown1.blk_ne hb1 (by decide)) (.slice a' (l1.length + 1) c')
        rw [flat_snoc]
        rw [LE.eq] at this
        rw [List.length_append]
        exact this
      · refine Touch.setCell ?_ (.inl (.inl rfl)) _
        exact (hT.alloc (.cells E 170)).drew.grown hg1 (fun k hk => hF k (.inr hk))
      · exact fun k hk => hk.elim (fun e => .inl (.inl e)) (fun e => (own_le hat1 (n := W0.heap.size) (by simp; omega) k e).elim (fun e2 => hF k (.inr e2)) .inr)

set_option maxRecDepth 100000 in
set_option maxHeartbeats 1000000 in
theorem reset_any (w : World) (r : Nat) (room first n : Int) (sv : Value) (l : List NT) (h : At w r room first sv l) :
    Calls Try.prog 113 #[.pointer (some ⟨r, 0, none⟩), .int .i64 n] w fun e w' => e = .returned (.tuple #[]) ∧ Turned w r sv room n [] w' := by
  obtain ⟨⟨c0, c1, c2⟩, f0, f1, f2⟩ := h.cells
  obtain ⟨a, c, rfl, hlc, hcm⟩ := h.2.slice
  go_enter Try.func113, Try.ntmps113
  go_wp2
  go_end0
  refine ⟨rfl, .slice none 0 0, ⟨(h.1.set_ 1 _).set_ 2 _, On.nil _ _ _⟩, ((Touch.refl _ _).setCell (.inl (.inl rfl)) _).setCell (.inl (.inl rfl)) _, fun k hk => hk.elim (fun e => .inl (.inl e)) (fun e => by simp [Value.ownBlock] at e)⟩
end Go.Proofs.Ytlhoffhagfhbcaa.RingE
namespace Go.Proofs.Ytlhoffhagfhbcaa.RingE
open Go.RowKit Go.Sort Go.Proofs.Ytlhoffhagfhbcaa.Gm
set_option linter.all false

theorem Turned.same {w w' : World} {r : Nat} {sv : Value} {room first : Int} {l : List NT} (h : At w r room first sv l) (hw : w'.heap = w.heap) (ht : Touch (fp r sv) w w') : Turned w r sv room first l w' :=
  ⟨sv, ⟨by unfold Blk; rw [hw]; exact h.1, h.2.of_heap fun g _ => by rw [hw]⟩, ht, fun _ hk => .inl hk⟩
theorem touch_same (S : Nat → Prop) (w : World) (n : Nat) : Touch S w (w.drewN n) := (Touch.refl S w).drewN n

def cutL (first : Int) (l : List NT) (n : Int) : List NT := if n < first + l.length then l.take (n - first).toNat else l

theorem cut_ok {w : World} {r n : Nat} {room first : Int} {l : List NT} {a : Option Addr} {c : Nat} (h : At w r room first (.slice a l.length c) l) {W : World} (hW : W.heap = w.heap) (hT : Touch (fp r (.slice a l.length c)) w W) (hn : n ≤ l.length) (hp : 0 < l.length) :
    Turned w r (.slice a l.length c) room first (l.take n) (W.setCell ⟨r, 2, none⟩ (.slice a n n)) := by
  have hne := h.ne_
  obtain ⟨a', c', hv, _, _, hs⟩ := h.slc
  cases hv
  obtain ⟨g, rfl, hgr, _⟩ := hs hp
  have hb := h.1.heap_eq hW
  have hlen : (l.take n).length = n := by simp [hn]
  have hcut := h.2.cut hn
  have hW2 : On W 170 67 (.slice (some ⟨g, 0, none⟩) n n) n ((flat cs l).take (n * 67)) := hcut.heap_eq hW
  refine ⟨.slice (some ⟨g, 0, none⟩) n n, ⟨hb.set_ 2 _, ?_⟩, hT.setCell (.inl (.inl rfl)) _, fun k hk => .inl hk⟩
  have := hW2.far (p := ⟨r, 2, none⟩) (by exact hne) (.slice (some ⟨g, 0, none⟩) n n)
  rw [hlen, ← flat_take cs_len]
  exact this

set_option maxRecDepth 100000 in
set_option maxHeartbeats 2000000 in
theorem cut_any (w : World) (r : Nat) (room first n : Int) (sv : Value) (l : List NT) (h : At w r room first sv l) (h0 : 0 ≤ first) (h1 : first + l.length ≤ 4611686018427387904) :
    Calls Try.prog 115 #[.pointer (some ⟨r, 0, none⟩), .int .i64 n] w fun e w' => e = .returned (.tuple #[]) ∧ Turned w r sv room first (cutL first l n) w' := by
  obtain ⟨⟨c0, c1, c2⟩, f0, f1, f2⟩ := h.cells
  have hp := Lib.hid (next_any w r room first sv l h h0 h1)
  obtain ⟨a, c, rfl, hlc, hcm⟩ := h.2.slice
  unfold maxLen at hcm
  by_cases b0 : n < first
  · by_cases hl : 0 < l.length
    · have hlt : first < first + (l.length : Int) := by omega
      have e4 := Lib.hid (show cutL first l n = l.take 0 by rw [cutL, if_pos (by omega)]; congr 1; omega)
      go_enter Try.func115, Try.ntmps115
      go_wp2_with fail
      refine hp.out.mono ?_
      rintro e w' ⟨rfl, nq, rfl⟩
      go_wp2_with fail
      go_region
      all_goals
        go_wp2_with fail
        refine bodyPost_end (results_none rfl _ _ _) rfl ⟨rfl, ?_⟩
        rw [e4.out]
        exact cut_ok h (by rfl) (touch_same _ _ _) (Nat.zero_le _) hl
    · have hlt : ¬ first < first + (l.length : Int) := by omega
      have e4 := Lib.hid (show cutL first l n = l by rw [cutL]; split <;> first | rfl | (rw [List.take_of_length_le (by omega)]))
      go_enter Try.func115, Try.ntmps115
      go_wp2_with fail
      refine hp.out.mono ?_
      rintro e w' ⟨rfl, nq, rfl⟩
      go_wp2_with fail
      refine bodyPost_end (results_none rfl _ _ _) rfl ⟨rfl, ?_⟩
      rw [e4.out]
      exact .same h rfl (touch_same _ _ _)
  · by_cases hl : n < first + (l.length : Int)
    · obtain ⟨j, hj⟩ : ∃ j : Nat, n - first = (j : Int) := ⟨(n - first).toNat, by omega⟩
      have hjl : j < l.length := by omega
      have e4 := Lib.hid (show cutL first l n = l.take j by rw [cutL, if_pos hl, hj, Int.toNat_natCast])
      have hj0 : (0 : Int) ≤ (j : Int) := by omega
      go_enter Try.func115, Try.ntmps115
      go_wp2_with fail
      refine hp.out.mono ?_
      rintro e w' ⟨rfl, nq, rfl⟩
      go_wp2_with fail
      go_region
      all_goals
        go_wp2_with fail
        refine bodyPost_end (results_none rfl _ _ _) rfl ⟨rfl, ?_⟩
        rw [e4.out]
        exact cut_ok h (by rfl) (touch_same _ _ _) (Nat.le_of_lt hjl) (by omega)
    · have e4 := Lib.hid (show cutL first l n = l by rw [cutL, if_neg hl])
      go_enter Try.func115, Try.ntmps115
      go_wp2_with fail
      refine hp.out.mono ?_
      rintro e w' ⟨rfl, nq, rfl⟩
      go_wp2_with fail
      refine bodyPost_end (results_none rfl _ _ _) rfl ⟨rfl, ?_⟩
      rw [e4.out]
      exact .same h rfl (touch_same _ _ _)

theorem touch_two {w W w1 : World} {r : Nat} {sv : Value} {row : Option Nat} (hT : Touch (fp r sv) w W) (hg : W.grownBy w1 row) (hr : ∀ k, row = some k → fp r sv k) (u1 u2 : Value) : Touch (fp r sv) w ((w1.setCell ⟨r, 2, none⟩ u1).setCell ⟨r, 1, none⟩ u2) :=
  ((hT.grown hg (fun k hk => Or.inl (hr k hk))).setCell (p := ⟨r, 2, none⟩) (Or.inl (Or.inl rfl)) _).setCell (p := ⟨r, 1, none⟩) (Or.inl (Or.inl rfl)) _

def dropF (first : Int) (len : Nat) (n : Int) : Int := if n ≤ first then first else first + min (n - first) len
def dropL (first : Int) (l : List NT) (n : Int) : List NT := if n ≤ first then l else l.drop (n - first).toNat

set_option maxRecDepth 100000 in
set_option maxHeartbeats 4000000 in
theorem drop_any (w : World) (r : Nat) (room first n : Int) (sv : Value) (l : List NT) (h : At w r room first sv l) (h0 : 0 ≤ first) (h1 : first + l.length ≤ 4611686018427387904) (hl : l.length ≤ 4096) (hn : n ≤ 9223372036854775807) :
    Calls Try.prog 117 #[.pointer (some ⟨r, 0, none⟩), .int .i64 n] w fun e w' => e = .returned (.tuple #[]) ∧ Turned w r sv room (dropF first l.length n) (dropL first l n) w' := by
  obtain ⟨⟨c0, c1, c2⟩, f0, f1, f2⟩ := h.cells
  by_cases b0 : n ≤ first
  · have e4 := Lib.hid (show dropL first l n = l by rw [dropL, if_pos b0])
    have e5 := Lib.hid (show dropF first l.length n = first by rw [dropF, if_pos b0])
    go_enter Try.func117, Try.ntmps117
    go_wp2_with fail
    refine bodyPost_ret (results_none rfl _ _ _) rfl ⟨rfl, ?_⟩
    rw [e4.out, e5.out]
    exact .same h rfl (touch_same _ _ 0)
  · obtain ⟨k, hk⟩ : ∃ k : Nat, min (n - first) (l.length : Int) = (k : Int) := ⟨(min (n - first) (l.length : Int)).toNat, by omega⟩
    have hkl : k ≤ l.length := by omega
    have e4 := Lib.hid (show dropL first l n = l.drop k by
      rw [dropL, if_neg b0]
      rcases Nat.le_total l.length (n - first).toNat with h2 | h2
      · rw [List.drop_eq_nil_of_le h2, List.drop_eq_nil_of_le (by omega)]
      · congr 1; omega)
    have e5 := Lib.hid (show dropF first l.length n = first + k by rw [dropF, if_neg b0, hk])
    have hk2 : (if (l.length : Int) < n - first then (l.length : Int) else n - first) = (k : Int) := by rw [← hk]; split <;> omega
    have hk0 : (0 : Int) ≤ (k : Int) := by omega
    have hkl2 : (k : Int) ≤ (l.length : Int) := by omega
    have hsum : first + (k : Int) ≤ 4611686018427387904 := by omega
    clear hk
    obtain ⟨i0, hi0, hz0, hz1, hz2⟩ := info_parts info
    obtain ⟨a, c, rfl, hlc, hcm⟩ := h.2.slice
    have hne := h.ne_
    go_enter Try.func117, Try.ntmps117
    go_wp2_with fail
    have hq1 : 0 + (l.length - k) ≤ maxLen := by simp only [maxLen]; omega
    have hq2 : (0 + (l.length - k)) * 536 ≤ 140737488355328 := by omega
    rcases h.2.form with ⟨hv, hl0, _⟩ | ⟨g, c', hv, _, hcm, _, _, _, _⟩
    · obtain rfl : l = [] := List.eq_nil_of_length_eq_zero hl0
      simp only [List.length_nil] at *
      cases hv
      obtain rfl : k = 0 := by omega
      have hown0 : On w 170 67 (.slice none 0 0) 0 [] := On.nil _ _ _
      have e6 := Lib.hid (show dropF first ([] : List NT).length n = first by have := e5.out; simpa using this)
      go_region
      go_wp2_with fail
      go_region_law (refine step_append_on _ (by rfl) (.tmp 28) (.tmp 34) _ (by rfl) 170 i0 _ 67 536 Try.underlying184 hi0 hz0 hz1 hz2 rfl (by omega) (.slice none 0 0) 0 [] (by rfl) (by exact hown0) none 0 0 [] (by rfl) (by rfl) (.inl ⟨rfl, rfl⟩) (fun _ hu => by cases hu) (by simp [maxLen]) (by omega) ?_; intro v' w1 hown1 hg1 hat1; obtain ⟨a', c', rfl, hlc', hcm'⟩ := hown1.slice; have hb1 := Blk.grown' hg1 (by exact h.1) (by exact hne); have k1 : w1.cell? ⟨r, 1, none⟩ = some (.int .i64 first) := hb1.cell 1; have k2 : w1.cell? ⟨r, 2, none⟩ = some (.slice none 0 0) := hb1.cell 2; have kf := hb1.frozen 2; have kf1 := hb1.frozen 1)
      all_goals
        go_wp2_with fail
        refine bodyPost_end (results_none rfl _ _ _) rfl ⟨rfl, ?_⟩
        rw [e4.out, e6.out]
        simp only [Nat.add_zero, List.append_nil] at hown1 hat1
        have hb3 := (hb1.set_ 2 (.slice a' 0 c')).set_ 1 (.int .i64 first)
        refine ⟨.slice a' 0 c', ⟨hb3, ?_⟩, touch_two (w := w) (W := w.drew.drew) (r := r) ⟨rfl, rfl, rfl, Nat.le_refl _, fun _ _ _ => rfl⟩ hg1 (fun k hk => by simp [Value.ownBlock] at hk) _ _, fun k hk => hk.elim (fun e => .inl (.inl e)) (fun e => (own_le hat1 (Nat.le_refl _) k e).imp .inr id)⟩
        exact (hown1.far (p := ⟨r, 2, none⟩) (hown1.blk_ne hb1 (by decide)) _).far (p := ⟨r, 1, none⟩) (hown1.blk_ne hb1 (by decide)) _
    · cases hv
      have hown0 : On w 170 67 (.slice (some ⟨g, 0, none⟩) 0 0) 0 [] := by simpa using h.2.cut (Nat.zero_le _)
      have hsrc := Lib.hid (src_drop_n h.2 k)
      have hdl := Lib.hid (show ((flat cs l).drop (k * 67)).length = (l.length - k) * 67 by rw [flat_drop cs_len, flat_len cs_len, List.length_drop])
      have hone := Lib.hid (show ∀ u ∈ (flat cs l).drop (k * 67), u.oneCell' = true from fun u hu => one_flat cs_one l u (List.mem_of_mem_drop hu))
      unfold maxLen at hcm
      have hkc : (k : Int) ≤ (c : Int) := by omega
      go_region
      go_wp2_with fail
      by_cases hc1 : c = k
      · subst hc1
        have hl1 := Lib.hid (show l.length = c by omega)
        go_region_law (refine step_append_on _ (by rfl) (.tmp 28) (.tmp 34) _ (by rfl) 170 i0 _ 67 536 Try.underlying184 hi0 hz0 hz1 hz2 rfl (by omega) (.slice (some ⟨g, 0, none⟩) 0 0) 0 [] (by rfl) (by exact hown0) (some ⟨g, 0, none⟩) 0 0 [] (by rfl) (by rfl) (.inl ⟨rfl, rfl⟩) (fun _ hu => by cases hu) (by simp [maxLen]) (by omega) ?_; intro v' w1 hown1 hg1 hat1; obtain ⟨a', c', rfl, hlc', hcm'⟩ := hown1.slice; have hb1 := Blk.grown' hg1 (by exact h.1) (by exact hne); have k1 : w1.cell? ⟨r, 1, none⟩ = some (.int .i64 first) := hb1.cell 1; have k2 : w1.cell? ⟨r, 2, none⟩ = some (.slice (some ⟨g, 0, none⟩) l.length c) := hb1.cell 2; have kf := hb1.frozen 2; have kf1 := hb1.frozen 1)
        all_goals
          go_wp2_with fail
          refine bodyPost_end (results_none rfl _ _ _) rfl ⟨rfl, ?_⟩
          rw [e4.out, e5.out]
          have hd : l.drop c = [] := List.eq_nil_of_length_eq_zero (by rw [List.length_drop, hl1.out, Nat.sub_self])
          simp only [Nat.add_zero, List.append_nil] at hown1 hat1
          exact shift_ok h (by rfl) hg1 ⟨rfl, rfl, rfl, Nat.le_refl _, fun _ _ _ => rfl⟩ (by rw [hd]; rfl) (by rw [flat_drop cs_len, hd]; exact hown1) hat1 _
      · have hkc2 : (k : Int) < (c : Int) := by omega
        go_region_law (refine step_append_on _ (by rfl) (.tmp 28) (.tmp 34) _ (by rfl) 170 i0 _ 67 536 Try.underlying184 hi0 hz0 hz1 hz2 rfl (by omega) (.slice (some ⟨g, 0, none⟩) 0 0) 0 [] (by rfl) (by exact hown0) (some ⟨g, k * 67, none⟩) (l.length - k) (c - k) ((flat cs l).drop (k * 67)) (by rfl) hdl.out (by exact hsrc.out) hone.out hq1 hq2 ?_; intro v' w1 hown1 hg1 hat1; obtain ⟨a', c', rfl, hlc', hcm'⟩ := hown1.slice; have hb1 := Blk.grown' hg1 (by exact h.1) (by exact hne); have k1 : w1.cell? ⟨r, 1, none⟩ = some (.int .i64 first) := hb1.cell 1; have k2 : w1.cell? ⟨r, 2, none⟩ = some (.slice (some ⟨g, 0, none⟩) l.length c) := hb1.cell 2; have kf := hb1.frozen 2; have kf1 := hb1.frozen 1)
        all_goals
          go_wp2_with fail
          refine bodyPost_end (results_none rfl _ _ _) rfl ⟨rfl, ?_⟩
          rw [e4.out, e5.out]
          simp only [Nat.zero_add, List.nil_append] at hown1 hat1
          exact shift_ok h (by rfl) hg1 ⟨rfl, rfl, rfl, Nat.le_refl _, fun _ _ _ => rfl⟩ (by simp) hown1 hat1 _
end Go.Proofs.Ytlhoffhagfhbcaa.RingE
namespace Go.Proofs.Ytlhoffhagfhbcaa.RingE
open Go.RowKit Go.Shelf Go.Proofs.Ytlhoffhagfhbcaa.Gm
set_option linter.all false
/-- A load of an entry, shut: in a walk inside a fence the operation is opened to this. -/
def loadE (v : Value) : Sem Value := Instr.loadAt 170 v
theorem loadAt_E (v : Value) : Instr.loadAt 170 v = loadE v := rfl
def loadJ (w : World) (r : Result Value) : Option (List Value) → Result Value
  | some L => .ok (.agg L.toArray) w
  | none => r
theorem loadJ_none (w : World) (r : Result Value) : loadJ w r none = r := rfl
theorem loadJ_some (w : World) (r : Result Value) (L : List Value) : loadJ w r (some L) = .ok (.agg L.toArray) w := rfl
def loadE0 (P : Program) (v : Value) (w : World) : Result Value := Sem.run P (Instr.loadAt 170 v) w
theorem run_loadE (w : World) (g o : Nat) : Sem.run Try.prog (loadE (.pointer (some ⟨g, o, none⟩))) w = loadJ w (loadE0 Try.prog (.pointer (some ⟨g, o, none⟩)) w) (rowIn w g o 67) := by
  cases h : rowIn w g o 67 with
  | none => rw [loadJ_none]; unfold loadE0 loadE; exact Eq.refl _
  | some L =>
    obtain ⟨hr, hl⟩ := of_rowIn h
    rw [loadJ_some]
    unfold loadE
    exact run_loadAt_mid w g o 170 L _ hr Try.underlying170 rfl (by rw [hl]; exact infoE)
attribute [local go_sem] Oper.semAt_some
attribute [local go_sem ↓] loadAt_E
attribute [local go_sem] run_loadE loadJ_some rowIn_drew

/-- What has come when k rounds are over. -/
def upto {α : Type} (f : Nat → α) (k : Nat) : List α := (List.range k).map f
theorem upto_succ {α : Type} (f : Nat → α) (k : Nat) : upto f (k + 1) = upto f k ++ [f k] := by simp [upto, List.range_succ]
theorem upto_length {α : Type} (f : Nat → α) (k : Nat) : (upto f k).length = k := by simp [upto]
def encs (x : Int × NT) : Array Value := #[.int .i64 x.1, .agg (cs x.2).toArray]
def ntAt (l : List NT) (j : Nat) : NT := l.getD j none0
theorem ntAt_some {l : List NT} {j : Nat} (h : j < l.length) : l[j]? = some (ntAt l j) := by simp [ntAt, List.getD, h]
def backF (first : Int) (l : List NT) (j : Nat) : Int × NT := (first + ((l.length - 1 - j : Nat) : Int), ntAt l (l.length - 1 - j))

/-- These blocks are kept. -/
def KeepB (K : Nat → Prop) (A B : World) : Prop := ∀ k, K k → B.heap[k]? = A.heap[k]?
theorem keepB_t {K : Nat → Prop} {A B C : World} (h : KeepB K A B) (h' : KeepB K B C) : KeepB K A C := fun k hk => (h' k hk).trans (h k hk)
theorem keepB_b {K : Nat → Prop} {m : Nat} (hK : ∀ k, K k → k < m) (W : World) (l : Nat) (o o' : Obj) (hl : m ≤ l) (_ : W.heap[l]? = some o) (_ : o.isCells = false) (_ : o.isWalk = false) : KeepB K W (W.putObj l o') :=
  fun k hk => World.putObj_heap_other (by have := hK k hk; omega)
theorem keepB_refl {K : Nat → Prop} (A : World) : KeepB K A A := fun _ _ => rfl
theorem At.keep {K : Nat → Prop} {w w' : World} {r : Nat} {room first : Int} {sv : Value} {l : List NT} (h : At w r room first sv l) (hb : KeepB K w w') (hB : ∀ k, fp r sv k → K k) : At w' r room first sv l :=
  ⟨(hb r (hB r (.inl rfl))).trans h.1, h.2.of_heap fun g hg => hb g (hB g (.inr hg))⟩
theorem cell_keep {K : Nat → Prop} {w w' : World} {b o : Nat} {v : Value} (h : w.cell? ⟨b, o, none⟩ = some v) (hb : KeepB K w w') (hK : K b) : w'.cell? ⟨b, o, none⟩ = some v :=
  (World.cell?_of_block (w := w) (a := ⟨b, o, none⟩) (hb b hK)).trans h

set_option maxRecDepth 100000 in
set_option maxHeartbeats 1000000 in
theorem back_any (w : World) (r : Nat) :
    Calls Try.prog 134 #[.pointer (some ⟨r, 0, none⟩)] w fun e w' => e = .returned (.func (.func 146) #[] #[.pointer (some ⟨w.heap.size, 0, none⟩)]) ∧ w.alloc (.cells #[.pointer (some ⟨r, 0, none⟩)] 166) = w' := by
  have hmf : ∀ (fn : Fn) (first cap : Array Value) (w : World), (Instr.makeFunc fn first cap).run Try.prog w = .ok (.func fn first cap) w := fun _ _ _ _ => rfl
  go_enter Try.func134, Try.ntmps134
  go_wp2
  go_ret
  exact ⟨rfl, rfl⟩

def BackPost (K : Nat → Prop) (J Jx : List (Int × NT) → World → Prop) (xs : List (Int × NT)) (W1 : World) (b : Bool) (W' : World) : Prop := if b = true then J xs W' ∧ KeepB K W1 W' else Jx xs W'

set_option maxRecDepth 100000 in
set_option maxHeartbeats 4000000 in
theorem back1_in (n : Nat) (hn : 1 ≤ n) (lo Bx r : Nat) (K : Nat → Prop) (room first : Int) (sv : Value) (l : List NT) (J Jx : List (Int × NT) → World → Prop)
    (hY : ∀ pre x W1, J pre W1 → pre.length < l.length → YieldAt Fence.wide (n - 1) Try.prog lo (encs x) W1 fun e W' =>
      (e = .returned (.bool true) ∧ J (pre ++ [x]) W' ∧ KeepB K W1 W') ∨ (e = .returned (.bool false) ∧ Jx (pre ++ [x]) W'))
    (W : World) (hc : W.cell? ⟨Bx, 0, none⟩ = some (.pointer (some ⟨r, 0, none⟩))) (hA : At W r room first sv l) (hfp : ∀ k, fp r sv k → K k) (hBx : K Bx) (h0 : 0 ≤ first) (h1 : first + l.length ≤ 4611686018427387904) (hJ0 : J [] W)
    (hJd : ∀ xs W, J xs W → J xs W.drew) :
    CallsIn Fence.wide n Try.prog 146 #[.func (.yield lo) #[] #[], .pointer (some ⟨Bx, 0, none⟩)] W fun e W' => (∃ v, e = .returned v) ∧
      ((∃ ys, ys = upto (backF first l) l.length ∧ J ys W') ∨ (∃ pre, (∃ k, k ≤ l.length ∧ pre = upto (backF first l) k) ∧ Jx pre W')) := by
  obtain ⟨⟨c0, c1, c2⟩, f0, f1, f2⟩ := hA.cells
  obtain ⟨a, c, rfl, hlc, hcm, hsv⟩ := hA.slc
  unfold maxLen at hcm
  refine callsIn_of_wp Try.func146 rfl trivial ?_ rfl
  simp only [Try.ntmps146, List.size_toArray, List.length_cons, List.length_nil, Nat.reduceAdd, Nat.reduceSub, Array.replicate_succ, Array.replicate_zero, List.push_toArray, List.append_toArray, List.nil_append, List.cons_append]
  gi_wp2
  gi_loopw [3] (fun i wr => ∃ k : Nat, k ≤ l.length ∧ i = .int .i64 ((l.length : Int) - 1 - (k : Int)) ∧ J (upto (backF first l) k) wr ∧ KeepB K W wr) (fun i _ => (intOf i + 1).toNat)
  case atStart => exact ⟨0, Nat.zero_le _, by simp, hJ0, keepB_refl _⟩
  case round =>
    obtain ⟨k, hk, rfl, hJs, hkp⟩ := hrel
    have hA2 := hA.keep hkp hfp
    obtain ⟨⟨d0, d1, d2⟩, _⟩ := hA2.cells
    have hcb := cell_keep hc hkp hBx
    by_cases hlt : k < l.length
    · obtain ⟨g, rfl, hgr, hcs⟩ := hsv (by omega)
      obtain ⟨j, hj⟩ : ∃ j : Nat, l.length - 1 - k = j := ⟨_, rfl⟩
      have hjl : j < l.length := by omega
      have hcj : rowIn wr g (j * 67) 67 = some (cs (ntAt l j)) := rowIn_of (fun m v hm => cell_keep (hcs j _ (ntAt_some hjl) m v hm) hkp (hfp g (.inr rfl))) (cs_len _)
      have hi0 : (0 : Int) ≤ (j : Int) := by omega
      have hi1 : (j : Int) < (l.length : Int) := by omega
      have hs1 : first + (j : Int) ≤ 4611686018427387904 := by omega
      have hyk := hY _ (backF first l k) wr.drew (hJd _ _ hJs) (by rw [upto_length]; exact hlt)
      obtain ⟨fn, tmps, assign, body, hy, hR⟩ := hyk
      dsimp only [encs, backF] at hy
      rw [hj] at hy
      have ej : (l.length : Int) - 1 - (k : Int) = (j : Int) := by omega
      rw [ej]
      have EJ := Lib.hid ej
      have HJ := Lib.hid hj
      clear hsv hcs hJs hY hc c0 c1 c2 f0 f1 f2 ej hj
      have hw1 : IntKind.i64.wrap (first + (j : Int)) = first + (j : Int) := IntWalk.i64_in _ (by omega)
      have hR2 := Lib.hid (hR.mono (R' := fun e W' => ∃ b, e = .returned (.bool b) ∧ BackPost K J Jx (upto (backF first l) k ++ [backF first l k]) wr.drew b W') (fun e W' h => by
        rcases h with ⟨rfl, h⟩ | ⟨rfl, h⟩
        · exact ⟨true, rfl, by simp [BackPost]; exact h⟩
        · exact ⟨false, rfl, by simp [BackPost]; exact h⟩))
      have hmx : Try.prog.follows .mixedOrders = true := by kernel_rfl
      clear hR hfp hA hA2 hBx hgr
      gi_wp2
      gi_region_with_o (refine hR2.out.mono ?_; rintro e W3 ⟨b, rfl, hp⟩)
      all_goals
        clear hw1
        cases b
        · gi_wp2
          refine bodyPost_ret (results_none rfl _ _ _) rfl ?_
          exact ⟨⟨_, rfl⟩, .inr ⟨_, ⟨k + 1, by omega, (upto_succ _ _).symm⟩, by simpa [BackPost] using hp⟩⟩
        · have hp2 : J (upto (backF first l) k ++ [backF first l k]) W3 ∧ KeepB K wr.drew W3 := by simpa [BackPost] using hp
          gi_wp2
          go_roundw
          case rel => exact ⟨k + 1, by omega, by have := EJ.out; simp <;> (try omega), by rw [upto_succ]; exact hp2.1, keepB_t hkp (keepB_t (B := wr.drew) (fun _ _ => rfl) hp2.2)⟩
          case measure => have := EJ.out; simp [intOf] <;> (try omega)
    · obtain rfl : k = l.length := by omega
      clear hsv
      gi_wp2
      go_end0
      exact ⟨⟨_, rfl⟩, .inl ⟨_, rfl, hJs⟩⟩

theorem back_stops (n : Nat) (hn : 1 ≤ n) (Bx r : Nat) (K : Nat → Prop) (room first : Int) (sv : Value) (l : List NT) (w : World) (hK : ∀ k, K k → k < w.heap.size)
    (hc : w.cell? ⟨Bx, 0, none⟩ = some (.pointer (some ⟨r, 0, none⟩))) (hA : At w r room first sv l) (hfp : ∀ k, fp r sv k → K k) (hBx : K Bx) (h0 : 0 ≤ first) (h1 : first + l.length ≤ 4611686018427387904) :
    SeqStopsK Fence.wide n Try.prog 146 #[.pointer (some ⟨Bx, 0, none⟩)] encs (KeepB K) (fun ys => ys = upto (backF first l) l.length) (fun pre => ∃ k, k ≤ l.length ∧ pre = upto (backF first l) k) l.length w := fun lo J Jx W hW hJ _ hY hJ0 => by
  have hkb : KeepB K w W := fun k hk => hW.block k (hK k hk)
  exact back1_in n hn lo Bx r K room first sv l J Jx hY W (cell_keep hc hkb hBx) (hA.keep hkb hfp) hfp hBx h0 h1 hJ0
    (fun xs W2 h => hJ xs W2 _ none h ⟨rfl, rfl, rfl, Nat.le_refl _, fun _ _ _ => rfl⟩ (fun r e => by cases e))
end Go.Proofs.Ytlhoffhagfhbcaa.RingE
namespace Go.Proofs.Ytlhoffhagfhbcaa
open Go.RowKit Go.ChangeShapes Go.WideShapes Go.ChangeAt

theorem open_row {H : Type} {enc : TypeId × Value → H} {P : Program} {W : World} {base : Nat} {spare : Nat → Bool} {held : Bool} {t e : TypeId} {k : IntKind} {r : Reach} {b0 : Nat} {v : Value} {d : DataW H} {p : List MemPlace}
    (ht : P.underlying t = some (.slice e)) (he : P.underlying e = some (.int k)) (hc : P.cellsOf e = 1) (hv : Value.okWide P W r b0 t v) (h : DataW.Trod enc P W base spare held t v d p) :
    ∃ a len cap zs, v = .slice a len cap ∧ len ≤ cap ∧ cap ≤ maxLen ∧ Row k W a len zs ∧ ∀ n ∈ zs, (Lit.int k n).wf = true := by
  obtain ⟨a0, len0, cap0, rfl⟩ := okWide_slice ht hv
  obtain ⟨fuel, hf⟩ := h
  rcases open_ints ht he hc hf with ⟨hcs, _⟩ | ⟨x, l, c, zs, hcs, _, hl, hm, hz, _, hcell, hwz⟩
  · simp [Value.cells] at hcs
    obtain ⟨rfl, rfl, rfl⟩ := hcs
    exact ⟨none, 0, 0, [], rfl, Nat.le_refl _, by simp [maxLen], ⟨rfl, fun h => by omega⟩, fun n hn => by cases hn⟩
  · simp [Value.cells] at hcs
    obtain ⟨rfl, rfl, rfl⟩ := hcs
    have hzl : len0 ≤ zs.length := by rw [hz]; split <;> omega
    refine ⟨some x, len0, cap0, zs.take len0, rfl, hl, hm, ⟨by simp; omega, fun hp => ?_⟩, fun n hn => hwz n (List.mem_of_mem_take hn)⟩
    obtain ⟨b, off, spot⟩ := x
    have c0 := hcell 0 (by omega)
    have hspot : spot = none := by simpa [Addr.add] using World.cell?_spot c0
    subst hspot
    have hadd : ∀ j, (⟨b, off, none⟩ : Addr).add j = ⟨b, off + j, none⟩ := fun j => by unfold Addr.add; split <;> simp_all
    refine ⟨b, off, rfl, ?_, fun j hj => ?_⟩
    · have := World.block_lt_of_cell? W _ c0
      rw [hadd] at this
      exact this
    · have hcj := hcell j (by omega)
      rw [hadd] at hcj
      rw [hcj]
      simp [nth, List.getD, hj]
end Go.Proofs.Ytlhoffhagfhbcaa
