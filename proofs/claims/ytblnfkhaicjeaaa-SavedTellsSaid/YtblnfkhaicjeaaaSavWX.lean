/-
  backstaylaw24.awake; saved and backstayref24 side by side: what each call does to both. Conditions: as the theorems name them.
-/
import Derived.Test.YtblnfkhaicjeaaaSavS
namespace Go.Proofs.Ytblnfkhaicjeaaa.Sav
open Go.RowKit Go.Sort Go.Proofs.Ytblnfkhaicjeaaa.Gm Go.Proofs.Ytblnfkhaicjeaaa.RingE
set_option linter.all false

def fr1 (n : Int) : F := fun j => if j = 0 then n else zF j
def fr2 (n s : Int) : F := fun j => if j = 0 then n else if j = 1 then s else zF j
theorem built_1 (n : Int) : Try.prog.built 33 [(0, .int .i64 n)] = some (stA (fr1 n)) := by
  show _ = _
  kernel_rfl
theorem built_2 (n s : Int) : Try.prog.built 33 [(0, .int .i64 n), (1, .int .u32 s)] = some (stA (fr2 n s)) := by
  show _ = _
  kernel_rfl
def bd1 (P : Program) (u : Value) (w : World) : Result Next := (Sem.run P (Instr.build 33 #[(0, u)]) w).andThen fun u w' => .ok (.value u) w'
theorem exec_bd1 (ev : Operand → Value) (dst : Option Tmp) (x : Operand) (ty : TypeId) (pos : String) (after : Array Edge) (guard : Option (Nat × Bool)) (w : World) :
    (execOp ev { dst := dst, op := Op.build 33 #[(0, x)], type := ty, pos := pos, after := after, guard := guard }).run Try.prog w = bd1 Try.prog (ev x) w := by
  unfold execOp bd1
  simp only [Sem.run_bind, Sem.run_pure, List.map_toArray, List.map_cons, List.map_nil]
theorem bd1_at (w : World) {C : Array Value} {n : Int} (LC : Let C (fr1 n)) : bd1 Try.prog (.int .i64 n) w = .ok (.value (.agg C)) w := by
  unfold bd1
  rw [run_build w _ _ _ (built_1 n), ← LC.eq]
  rfl
def bd2 (P : Program) (u v : Value) (w : World) : Result Next := (Sem.run P (Instr.build 33 #[(0, u), (1, v)]) w).andThen fun u w' => .ok (.value u) w'
theorem exec_bd2 (ev : Operand → Value) (dst : Option Tmp) (x y : Operand) (ty : TypeId) (pos : String) (after : Array Edge) (guard : Option (Nat × Bool)) (w : World) :
    (execOp ev { dst := dst, op := Op.build 33 #[(0, x), (1, y)], type := ty, pos := pos, after := after, guard := guard }).run Try.prog w = bd2 Try.prog (ev x) (ev y) w := by
  unfold execOp bd2
  simp only [Sem.run_bind, Sem.run_pure, List.map_toArray, List.map_cons, List.map_nil]
theorem bd2_at (w : World) {C : Array Value} {n s : Int} (LC : Let C (fr2 n s)) : bd2 Try.prog (.int .i64 n) (.int .u32 s) w = .ok (.value (.agg C)) w := by
  unfold bd2
  rw [run_build w _ _ _ (built_2 n s), ← LC.eq]
  rfl
attribute [local go_sem ↓] exec_bd1 exec_bd2

theorem wf_fr2 (n s : Int) (hn : -9223372036854775808 ≤ n ∧ n ≤ 9223372036854775807) (hs : 0 ≤ s ∧ s < 4294967296) : Wf (fr2 n s) := by
  refine ⟨fun j hj => ?_, ?_⟩
  · unfold fr2
    split
    · exact hn
    · split
      · omega
      · simp [zF]
  · simpa [fr2] using hs
theorem wf_fr1 (n : Int) (hn : -9223372036854775808 ≤ n ∧ n ≤ 9223372036854775807) : Wf (fr1 n) := by
  refine ⟨fun j hj => ?_, ?_⟩
  · unfold fr1
    split
    · exact hn
    · simp [zF]
  · simp [fr1, zF]

theorem aw_b (l : List NT) (k : Int) (h : 0 < l.length ∨ k = 0) : baseF 0 l k = 0 := by
  unfold baseF
  by_cases h2 : saveP 0 l k
  · rw [if_pos h2]
    have := h2.1
    rcases h with h | h <;> omega
  · rw [if_neg h2]
theorem aw_e (l : List NT) (k : Nat) (hl : l.length = k) (hk : k ≤ 3) : saveE 0 l (k : Int) = 0 := by
  unfold saveE
  rw [aw_b l k (by omega), if_neg (by omega), if_neg (by omega)]
theorem aw_step (l : List NT) (k : Nat) (hl : l.length = k) (hk : k ≤ 2) : saveF 9 0 l (fr1 k) = 0 ∧ (saveL 9 0 l (fr1 k)).length = k + 1 := by
  have e0 : fr1 (k : Int) 0 = (k : Int) := rfl
  unfold saveF saveL
  rw [e0, aw_e l k hl (by omega), if_pos rfl, if_pos rfl, aw_b l k (by omega)]
  have hc : cutL 0 l (k : Int) = l := by unfold cutL; split <;> first | rfl | omega
  rw [hc]
  unfold putF putL
  rw [if_neg (by omega), if_neg (by omega)]
  simp [hl]
theorem aw_last (l : List NT) (hl : l.length = 3) : saveE 0 l 1 = 0 ∧ saveF 9 0 l (fr1 1) = 0 ∧ (saveL 9 0 l (fr1 1)).length = 2 := by
  have e0 : fr1 (1 : Int) 0 = 1 := rfl
  have he : saveE 0 l 1 = 0 := by
    unfold saveE
    rw [aw_b l 1 (by omega), if_neg (by omega), if_neg (by omega)]
  unfold saveF saveL
  rw [e0, he, if_pos rfl, if_pos rfl, aw_b l 1 (by omega)]
  have hc : (cutL 0 l 1).length = 1 := by unfold cutL; rw [if_pos (by omega)]; simp [hl]
  unfold putF putL
  rw [if_neg (by omega), if_neg (by omega)]
  simp [hc]

set_option maxRecDepth 100000 in
set_option maxHeartbeats 4000000 in
theorem awake_any (w : World) : Calls Try.prog 34 #[] w fun e w' => e = .returned (.bool true) ∧ Below w.heap.size w w' := by
  have p := Lib.hid (new_ok 9 w (by omega) (by omega))
  go_enter Try.func34, Try.ntmps34
  go_wp2_with fail
  refine p.out.mono ?_
  rintro e w0 ⟨rfl, hS, hB⟩
  obtain ⟨g, hg⟩ : ∃ g, g = w.heap.size + 1 := ⟨_, rfl⟩
  obtain ⟨r, hr⟩ : ∃ r, r = w.heap.size := ⟨_, rfl⟩
  rw [← hg] at hS ⊢
  rw [← hr] at hS
  have hgl : w.heap.size ≤ g := by omega
  have hfp0 : ∀ k, fp r (.slice none 0 0) k → w.heap.size ≤ k := fun k hk => hk.elim (fun e => by omega) (fun e => by simp [Value.ownBlock] at e)
  clear p hg hr
  go_wp2_with fail
  go_loopw [3] (fun i wr => ∃ k : Nat, k ≤ 3 ∧ i = .int .i64 (k : Int) ∧ ∃ sv l, l.length = k ∧ SA wr g r 9 0 sv l ∧ (∀ j, fp r sv j → w.heap.size ≤ j) ∧ Below w.heap.size w wr) (fun i _ => (3 - intOf i).toNat)
  case atStart => exact ⟨0, by omega, rfl, _, [], rfl, hS, hfp0, hB⟩
  case round =>
    clear hS hB hfp0
    obtain ⟨k, hk, rfl, sv, l, hl, hS, hfp, hB⟩ := hrel
    by_cases hlt : k < 3
    · have hlt' : (k : Int) < 3 := by omega
      have h0 : (0 : Int) ≤ (k : Int) := by omega
      obtain ⟨C, LC⟩ := let_of (fr1 (k : Int))
      have hbd : ∀ W, bd1 Try.prog (.int .i64 (k : Int)) W = .ok (.value (.agg C)) W := fun W => bd1_at W LC
      have pS := Lib.hid (save_any wr g r 9 0 sv l C (fr1 (k : Int)) LC (wf_fr1 _ (by omega)) hS (by omega) (by omega) (by omega) (by omega))
      have hst := Lib.hid (aw_step l k hl (by omega))
      have HB := Lib.hid hB
      clear LC hS hB
      go_wp2_with fail
      refine pS.out.mono ?_
      rintro e w2 ⟨rfl, sv2, hS2, hT, hF⟩
      rw [hst.out.1] at hS2
      have HS2 := Lib.hid hS2
      have HT := Lib.hid (HB.out.trans (hT.below HB.out.size hfp))
      have HF := Lib.hid (show ∀ j, fp r sv2 j → w.heap.size ≤ j from fun j hj => (hF j hj).elim (hfp j) (fun h => Nat.le_trans HB.out.size h))
      clear hS2 hT hF hbd
      go_wp2_with fail
      exact ⟨⟨k + 1, by omega, by simp, sv2, _, hst.out.2, HS2.out, HF.out, HT.out⟩, by simp [intOf]; omega⟩
    · obtain rfl : k = 3 := by omega
      obtain ⟨C, LC⟩ := let_of (fr1 1)
      have hbd : ∀ W, bd1 Try.prog (.int .i64 1) W = .ok (.value (.agg C)) W := fun W => bd1_at W LC
      have hlast := aw_last l hl
      have pS := save_any wr g r 9 0 sv l C (fr1 1) LC (wf_fr1 _ (by omega)) hS (by omega) (by omega) (by omega) (by omega)
      rw [show fr1 1 0 = 1 from rfl, hlast.1, hlast.2.1] at pS
      have PS := Lib.hid pS
      have HB := Lib.hid hB
      have hst := Lib.hid hlast.2.2
      clear LC hS hB hlast pS
      go_wp2_with fail
      refine PS.out.mono ?_
      rintro e w2 ⟨rfl, sv2, hS2, hT, hF⟩
      have HT := Lib.hid (HB.out.trans (hT.below HB.out.size hfp))
      have pN := snext_any w2 g r 9 0 sv2 _ hS2 (by omega) (by rw [hst.out]; omega)
      rw [hst.out] at pN
      have PN := Lib.hid pN
      have HS2 := Lib.hid hS2
      clear hS2 hT hF hbd pN
      go_wp2_with fail
      refine PN.out.mono ?_
      rintro e w3 ⟨rfl, nq, rfl⟩
      have pL := slen_any (w2.drewN nq) g r 9 0 sv2 _ (HS2.out.drewN nq)
      rw [hst.out] at pL
      have PL := Lib.hid pL
      clear pL
      go_wp2_with fail
      refine PL.out.mono ?_
      rintro e w4 ⟨rfl, rfl⟩
      have HT2 := Lib.hid (below_drewN HT.out nq)
      go_wp2_with fail
      go_ret
      exact ⟨rfl, HT2.out⟩
end Go.Proofs.Ytblnfkhaicjeaaa.Sav
namespace Go.Proofs.Ytblnfkhaicjeaaa.Sav
open Go.RowKit Go.Sort Go.Proofs.Ytblnfkhaicjeaaa.Gm Go.Proofs.Ytblnfkhaicjeaaa.RingE
set_option linter.all false

theorem StRow.touch' {S : Nat → Prop} {w w' : World} {a : Option Addr} {fs : List F} (h : StRow w a fs) (ht : Touch S w w') (hs : 0 < fs.length → ∀ b, a.map (·.block) = some b → ¬ S b) : StRow w' a fs :=
  ⟨h.1, fun hp => by
    obtain ⟨b, off, rfl, hlt, hc⟩ := h.2 hp
    exact ⟨b, off, rfl, Nat.lt_of_lt_of_le hlt ht.size, fun j f hj k v hv => (ht.cell (p := ⟨b, off + j * 66 + k, none⟩) hlt (hs hp b rfl)).trans (hc j f hj k v hv)⟩⟩
/-- The document's list in memory, apart from the ring. -/
def RfOk (B r : Nat) (sv : Value) (W : World) (a : Option Addr) (fs : List F) : Prop := StRow W a fs ∧ (0 < fs.length → ∀ b, a.map (·.block) = some b → B ≤ b ∧ ¬ fp r sv b)
section
variable {B r : Nat} {sv sv' : Value} {W W' : World} {a : Option Addr} {fs : List F}
theorem RfOk.bel (h : RfOk B r sv W a fs) (hb : Below W.heap.size W W') : RfOk B r sv W' a fs := ⟨h.1.below hb, h.2⟩
theorem RfOk.lt (h : RfOk B r sv W a fs) (hp : 0 < fs.length) : ∀ b, a.map (·.block) = some b → b < W.heap.size := fun b hb => by
  obtain ⟨b', off, rfl, hlt, _⟩ := h.1.2 hp
  cases hb
  exact hlt
theorem RfOk.turn (h : RfOk B r sv W a fs) (ht : Touch (fp r sv) W W') (hF : ∀ k, fp r sv' k → fp r sv k ∨ W.heap.size ≤ k) : RfOk B r sv' W' a fs :=
  ⟨StRow.touch' h.1 ht (fun hp b hb => (h.2 hp b hb).2), fun hp b hb => ⟨(h.2 hp b hb).1, fun hk => (hF b hk).elim (h.2 hp b hb).2 (fun e => by have := h.lt hp b hb; omega)⟩⟩
theorem RfOk.box {T : Nat → Prop} (h : RfOk B r sv W a fs) (ht : Touch T W W') (hT : ∀ k, T k → k < B) : RfOk B r sv W' a fs :=
  ⟨StRow.touch' h.1 ht (fun hp b hb hk => by have := (h.2 hp b hb).1; have := hT b hk; omega), h.2⟩
theorem RfOk.saved {a' : Option Addr} {fs' : List F} (h : RfOk B r sv W a fs) (hr : StRow W' a' fs') (hf : FromOr W.heap.size a fs a' fs') (hB : B ≤ W.heap.size) (hlt : ∀ k, fp r sv k → k < W.heap.size) : RfOk B r sv W' a' fs' :=
  ⟨hr, fun hp b hb => (hf b hb).elim (fun e => h.2 (by rw [← e.2]; exact hp) b e.1) (fun e => ⟨by omega, fun hk => by have := hlt b hk; omega⟩)⟩
theorem RfOk.dropped {a' : Option Addr} {k : Nat} (h : RfOk B r sv W a fs) (hr : StRow W' a' (fs.drop k)) (hf : a'.map (·.block) = a.map (·.block)) : RfOk B r sv W' a' (fs.drop k) :=
  ⟨hr, fun hp b hb => h.2 (by rw [List.length_drop] at hp; omega) b (by rw [← hf]; exact hb)⟩
end

/-- Both, as they stand beside each other. -/
structure StS (w : World) (g r : Nat) (sv : Value) (room f : Int) (l : List NT) (f' : Int) (fs : List F) (a : Option Addr) (c : Nat) (W : World) : Prop where
  sa : SA W g r room f sv l
  out : Blk W w.heap.size 71 #[.int .i64 0, .int .i64 0, .slice none 0 0]
  box : Blk W (w.heap.size + 1) 71 #[.int .i64 room, .int .i64 f', .slice a fs.length c]
  row : RfOk (w.heap.size + 2) r sv W a fs
  below : Below w.heap.size w W
  far : ∀ b, fp r sv b → w.heap.size + 2 ≤ b
  gfar : w.heap.size + 2 ≤ g
section
variable {w : World} {g r : Nat} {sv : Value} {room f f' : Int} {l : List NT} {fs : List F} {a : Option Addr} {c : Nat} {W W' : World}
theorem StS.size (h : StS w g r sv room f l f' fs a c W) : w.heap.size + 2 ≤ W.heap.size := by have := Blk.lt h.box; omega
theorem StS.bel (h : StS w g r sv room f l f' fs a c W) (hb : Below W.heap.size W W') : StS w g r sv room f l f' fs a c W' :=
  ⟨h.sa.below hb, Blk.below h.out hb (Blk.lt h.out), Blk.below h.box hb (Blk.lt h.box), h.row.bel hb, h.below.trans (hb.mono h.below.size), h.far, h.gfar⟩
theorem StS.turn {f2 : Int} {l2 : List NT} (h : StS w g r sv room f l f' fs a c W) (t : TurnedS W g r sv room f2 l2 W') : ∃ sv2, StS w g r sv2 room f2 l2 f' fs a c W' ∧ (∀ k, fp r sv2 k → fp r sv k ∨ W.heap.size ≤ k) ∧ Touch (fp r sv) W W' := by
  obtain ⟨sv2, hA, hT, hF⟩ := t
  have hs := h.size
  exact ⟨sv2, ⟨hA, Blk.touch h.out hT (fun hk => by have := h.far _ hk; omega), Blk.touch h.box hT (fun hk => by have := h.far _ hk; omega), h.row.turn hT hF, h.below.trans (hT.below h.below.size (fun k hk => by have := h.far k hk; omega)),
    fun b hb => (hF b hb).elim (h.far b) (fun e => by omega), h.gfar⟩, hF, hT⟩
theorem StS.store {f2 : Int} {fs2 : List F} {a2 : Option Addr} {c2 : Nat} (h : StS w g r sv room f l f' fs a c W) (hr : RfOk (w.heap.size + 2) r sv W a2 fs2) (hb : Blk W' (w.heap.size + 1) 71 #[.int .i64 room, .int .i64 f2, .slice a2 fs2.length c2]) (ht : Touch (fun k => k = w.heap.size + 1) W W') :
    StS w g r sv room f l f2 fs2 a2 c2 W' := by
  have hs := h.size
  exact ⟨⟨Blk.touch h.sa.1 ht (fun e => by have := h.gfar; omega), h.sa.2.touch ht (fun k hk e => by have := h.far k hk; omega)⟩, Blk.touch h.out ht (by omega), hb, hr.box ht (fun k hk => by omega), h.below.trans (ht.below h.below.size (fun k hk => by omega)), h.far, h.gfar⟩
end

/-- What the states are kept within. -/
structure InM (room : Int) (i : Nat) (first : Int) (fs : List F) : Prop where
  pos : 0 ≤ first
  room_ : (fs.length : Int) ≤ room
  top : first + fs.length ≤ 1073741824 + (i : Int)
  wf : ∀ f ∈ fs, Wf f
section
variable {room first : Int} {i : Nat} {fs : List F}
theorem e_eq (first : Int) (fs : List F) (fr : Int) : saveE first (fs.map tag) fr = rsE first fs.length fr ∧ baseF first (fs.map tag) fr = rsB first fs.length fr := by
  have hb : baseF first (fs.map tag) fr = rsB first fs.length fr := by
    unfold baseF rsB
    by_cases h : rsP first fs.length fr
    · have h' : saveP first (fs.map tag) fr := by unfold saveP; rw [List.length_map]; exact h
      rw [if_pos h, if_pos h']
    · have h' : ¬ saveP first (fs.map tag) fr := by unfold saveP; rw [List.length_map]; exact h
      rw [if_neg h, if_neg h']
  refine ⟨?_, hb⟩
  unfold saveE rsE
  rw [hb, List.length_map]
theorem rs_of_zero {first fr : Int} {n : Nat} (h : rsE first n fr = 0) : fr ≤ rsB first n fr + n ∧ rsB first n fr ≤ fr := by
  unfold rsE at h
  by_cases h1 : rsB first n fr + n < fr
  · rw [if_pos h1] at h; omega
  · by_cases h2 : fr < rsB first n fr
    · rw [if_neg h1, if_pos h2] at h; omega
    · omega
theorem rs_base {first fr : Int} {n : Nat} (h : rsE first n fr ≠ 0) : rsB first n fr = first := by
  unfold rsB
  by_cases hp : rsP first n fr
  · exfalso
    refine h ?_
    have hb : rsB first n fr = fr := by unfold rsB; rw [if_pos hp]
    unfold rsE
    rw [hb, if_neg (by omega), if_neg (by omega)]
  · rw [if_neg hp]
theorem InM.save_eq (h : InM room i first fs) (hr : 1 ≤ room) (f : F) : saveF room first (fs.map tag) f = rsF room first fs f ∧ saveL room first (fs.map tag) f = (rsL room first fs f).map tag := by
  obtain ⟨e1, e2⟩ := e_eq first fs (f 0)
  unfold saveF saveL rsF rsL
  rw [e1, e2]
  by_cases hz : rsE first fs.length (f 0) = 0
  · rw [if_pos hz, if_pos hz, if_pos hz, if_pos hz]
    obtain ⟨b1, b2⟩ := rs_of_zero hz
    refine ⟨?_, save_map room _ fs f b1 hr h.room_⟩
    rw [cut_map _ fs _ b1]
    unfold putF
    rw [List.length_map, List.length_append, List.length_singleton]
    have hk : (fs.take (f 0 - rsB first fs.length (f 0)).toNat).length ≤ fs.length := by simp; omega
    have := h.room_
    by_cases hc : ((fs.take (f 0 - rsB first fs.length (f 0)).toNat).length : Int) = room
    · rw [if_pos hc, if_pos (by omega)]
    · rw [if_neg hc, if_neg (by omega)]
  · rw [if_neg hz, if_neg hz, if_neg hz, if_neg hz]
    exact ⟨(rs_base hz).symm, rfl⟩
theorem InM.save (h : InM room i first fs) (hr : 1 ≤ room) (f : F) (hf : Wf f) : InM room (i + 1) (rsF room first fs f) (rsL room first fs f) := by
  unfold rsF rsL
  by_cases hz : rsE first fs.length (f 0) = 0
  · rw [if_pos hz, if_pos hz]
    obtain ⟨b1, b2⟩ := rs_of_zero hz
    have hb : 0 ≤ rsB first fs.length (f 0) ∧ rsB first fs.length (f 0) + fs.length ≤ 1073741824 + (i : Int) := by
      unfold rsB
      by_cases hp : rsP first fs.length (f 0)
      · rw [if_pos hp]
        obtain ⟨p1, p2, p3, p4⟩ := hp
        exact ⟨p3, by omega⟩
      · rw [if_neg hp]
        exact ⟨h.pos, h.top⟩
    have hw : ∀ x ∈ fs.take (f 0 - rsB first fs.length (f 0)).toNat ++ [f], Wf x := fun x hx => (List.mem_append.1 hx).elim (fun e => h.wf x (List.mem_of_mem_take e)) (fun e => by rw [List.mem_singleton.1 e]; exact hf)
    have hk : (fs.take (f 0 - rsB first fs.length (f 0)).toNat).length ≤ fs.length := by simp; omega
    have hl : (fs.take (f 0 - rsB first fs.length (f 0)).toNat ++ [f]).length = (fs.take (f 0 - rsB first fs.length (f 0)).toNat).length + 1 := by simp
    have hro := h.room_
    unfold refL
    by_cases hc : room < ((fs.take (f 0 - rsB first fs.length (f 0)).toNat ++ [f]).length : Int)
    · rw [if_pos hc, if_pos hc]
      exact ⟨by omega, by rw [List.length_drop]; omega, by rw [List.length_drop]; omega, fun x hx => hw x (List.mem_of_mem_drop hx)⟩
    · rw [if_neg hc, if_neg hc]
      exact ⟨hb.1, by omega, by omega, hw⟩
  · rw [if_neg hz, if_neg hz, rs_base hz]
    exact ⟨h.pos, h.room_, by have := h.top; omega, h.wf⟩
theorem refDK_le (first : Int) (n : Nat) (b : Int) : refDK first n b ≤ n := by unfold refDK; split <;> omega
theorem InM.drop (h : InM room i first fs) (b : Int) : InM room (i + 1) (first + (refDK first fs.length b : Int)) (fs.drop (refDK first fs.length b)) := by
  have := refDK_le first fs.length b
  have h1 := h.pos
  have h2 := h.room_
  have h3 := h.top
  exact ⟨by omega, by rw [List.length_drop]; omega, by rw [List.length_drop]; omega, fun x hx => h.wf x (List.mem_of_mem_drop hx)⟩
theorem InM.next (h : InM room i first fs) : InM room (i + 1) first fs := ⟨h.pos, h.room_, by have := h.top; omega, h.wf⟩
end
end Go.Proofs.Ytblnfkhaicjeaaa.Sav
