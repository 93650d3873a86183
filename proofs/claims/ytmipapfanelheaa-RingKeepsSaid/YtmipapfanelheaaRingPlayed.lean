/-
  The walk of backstaylaw09.played: whatever calls are tried, the ring stays as the document's. No condition but those that played itself tries.
-/
import Derived.Test.YtmipapfanelheaaSameInt
import Derived.Test.YtmipapfanelheaaRef09C
import Derived.Test.YtmipapfanelheaaRingLaw1
import Derived.Deep.Cut
import Derived.Deep.CutBlock
import Derived.Deep.DeepCutAuto
namespace Go.Proofs.Ytmipapfanelheaa
open Go.RowKit Go.Shelf Go.Sort
set_option linter.all false

/-- Calls that came in: three ints each. -/
def Ops (w : World) (a : Option Addr) (len : Nat) (ops : List (Int × Int × Int)) : Prop :=
  ops.length = len ∧ (0 < len → ∃ b off, a = some ⟨b, off, none⟩ ∧ b < w.heap.size ∧ ∀ j x, ops[j]? = some x →
    w.cell? ⟨b, off + j * 3, none⟩ = some (.int .i64 x.1) ∧ w.cell? ⟨b, off + j * 3 + 1, none⟩ = some (.int .i64 x.2.1) ∧ w.cell? ⟨b, off + j * 3 + 2, none⟩ = some (.int .i64 x.2.2))
def OpsWf (ops : List (Int × Int × Int)) : Prop := ∀ x ∈ ops, -9223372036854775808 ≤ x.2.1 ∧ x.2.1 ≤ 9223372036854775807

namespace RingP
open RingInt Ref09
/-- The ring, and the document's, as they stand beside each other. -/
structure St (w : World) (r : Nat) (sv : Value) (room f : Int) (l : List Int) (f' : Int) (l' : List Int) (a : Option Addr) (c : Nat) (W : World) : Prop where
  ring : At W r room f sv l
  out : Blk W w.heap.size 55 #[.int .i64 0, .int .i64 0, .slice none 0 0]
  box : Blk W (w.heap.size + 1) 55 #[.int .i64 room, .int .i64 f', .slice a l'.length c]
  list : On W 3 1 (.slice a l'.length c) l'.length (l'.map (.int .i64))
  below : Below w.heap.size w W
  far : ∀ b, fp r sv b → w.heap.size + 2 ≤ b
  own : ∀ b, (Value.slice a l'.length c).ownBlock = some b → w.heap.size + 2 ≤ b ∧ ¬ fp r sv b
section
variable {w : World} {r : Nat} {sv : Value} {room f f' : Int} {l l' : List Int} {a : Option Addr} {c : Nat} {W W' : World}
theorem St.size (h : St w r sv room f l f' l' a c W) : w.heap.size + 2 ≤ W.heap.size := by have := h.box.lt; omega
theorem St.bel (h : St w r sv room f l f' l' a c W) (hb : Below W.heap.size W W') : St w r sv room f l f' l' a c W' :=
  ⟨h.ring.below hb, h.out.below hb h.out.lt, h.box.below hb h.box.lt, h.list.below hb h.list.lt, h.below.trans (hb.mono h.below.size), h.far, h.own⟩
/-- The ring has turned. -/
theorem St.turn {f2 : Int} {l2 : List Int} (h : St w r sv room f l f' l' a c W) (t : Turned W r sv room f2 l2 W') : ∃ sv2, St w r sv2 room f2 l2 f' l' a c W' := by
  obtain ⟨sv2, hA, hT, hF⟩ := t
  have hs := h.size
  refine ⟨sv2, hA, h.out.touch hT (fun hk => by have := h.far _ hk; omega), h.box.touch hT (fun hk => by have := h.far _ hk; omega), h.list.touch hT (fun g hg hk => (h.own g hg).2 hk),
    h.below.trans (hT.below h.below.size (fun k hk => by have := h.far k hk; omega)), fun b hb => (hF b hb).elim (h.far b) (fun e => by omega), fun b hb => ⟨(h.own b hb).1, fun hk => (hF b hk).elim (h.own b hb).2 (fun e => by have := h.list.lt b hb; omega)⟩⟩
theorem St.turnAt {f2 : Int} {l2 : List Int} {sv2 : Value} (h : St w r sv room f l f' l' a c W) (hA : At W' r room f2 sv2 l2) (hT : Touch (fp r sv) W W') (hF : ∀ k, fp r sv2 k → fp r sv k ∨ W.heap.size ≤ k) : St w r sv2 room f2 l2 f' l' a c W' := by
  have hs := h.size
  exact ⟨hA, h.out.touch hT (fun hk => by have := h.far _ hk; omega), h.box.touch hT (fun hk => by have := h.far _ hk; omega), h.list.touch hT (fun g hg hk => (h.own g hg).2 hk),
    h.below.trans (hT.below h.below.size (fun k hk => by have := h.far k hk; omega)), fun b hb => (hF b hb).elim (h.far b) (fun e => by omega), fun b hb => ⟨(h.own b hb).1, fun hk => (hF b hk).elim (h.own b hb).2 (fun e => by have := h.list.lt b hb; omega)⟩⟩
/-- .. and a list that lay apart lies so still. -/
theorem St.turn2 {f2 : Int} {l2 : List Int} {v : Value} {n : Nat} {xs : List Value} (h : St w r sv room f l f' l' a c W) (t : Turned W r sv room f2 l2 W') (hl : On W 3 1 v n xs)
    (ho : ∀ b, v.ownBlock = some b → w.heap.size + 2 ≤ b ∧ ¬ fp r sv b) : ∃ sv2, St w r sv2 room f2 l2 f' l' a c W' ∧ On W' 3 1 v n xs ∧ ∀ b, v.ownBlock = some b → w.heap.size + 2 ≤ b ∧ ¬ fp r sv2 b := by
  obtain ⟨sv2, hA, hT, hF⟩ := t
  have hs := h.size
  refine ⟨sv2, ⟨hA, h.out.touch hT (fun hk => by have := h.far _ hk; omega), h.box.touch hT (fun hk => by have := h.far _ hk; omega), h.list.touch hT (fun g hg hk => (h.own g hg).2 hk),
    h.below.trans (hT.below h.below.size (fun k hk => by have := h.far k hk; omega)), fun b hb => (hF b hb).elim (h.far b) (fun e => by omega), fun b hb => ⟨(h.own b hb).1, fun hk => (hF b hk).elim (h.own b hb).2 (fun e => by have := h.list.lt b hb; omega)⟩⟩,
    hl.touch hT (fun g hg hk => (ho g hg).2 hk), fun b hb => ⟨(ho b hb).1, fun hk => (hF b hk).elim (ho b hb).2 (fun e => by have := hl.lt b hb; omega)⟩⟩
/-- The document's has turned, and is stored. -/
theorem St.stored {f2 : Int} {l2 : List Int} {a2 : Option Addr} {c2 : Nat} {W2 : World} (h : St w r sv room f l f' l' a c W) (T : Touch (fun k => k = w.heap.size + 1) W W2)
    (hb : Blk W2 (w.heap.size + 1) 55 #[.int .i64 room, .int .i64 f2, .slice a2 l2.length c2]) (hl : On W 3 1 (.slice a2 l2.length c2) l2.length (l2.map (.int .i64)))
    (ho : ∀ b, (Value.slice a2 l2.length c2).ownBlock = some b → w.heap.size + 2 ≤ b ∧ ¬ fp r sv b) : St w r sv room f l f2 l2 a2 c2 W2 :=
  ⟨h.ring.touch T (fun k hk e => by have := h.far k hk; omega), h.out.touch T (by omega), hb, hl.touch T (fun g hg e => by have := (ho g hg).1; omega), h.below.trans (T.below h.below.size (fun k hk => by omega)), h.far, ho⟩
theorem St.store {f2 : Int} {l2 : List Int} {a2 : Option Addr} {c2 : Nat} (h : St w r sv room f l f' l' a c W) (hl : On W 3 1 (.slice a2 l2.length c2) l2.length (l2.map (.int .i64)))
    (ho : ∀ b, (Value.slice a2 l2.length c2).ownBlock = some b → w.heap.size + 2 ≤ b ∧ ¬ fp r sv b) :
    St w r sv room f l f2 l2 a2 c2 (((W.setCell ⟨w.heap.size + 1, 0, none⟩ (.int .i64 room)).setCell ⟨w.heap.size + 1, 1, none⟩ (.int .i64 f2)).setCell ⟨w.heap.size + 1, 2, none⟩ (.slice a2 l2.length c2)) :=
  h.stored ((((Touch.refl (fun k => k = w.heap.size + 1) W).setCell (p := ⟨w.heap.size + 1, 0, none⟩) (Or.inl rfl) _).setCell (p := ⟨w.heap.size + 1, 1, none⟩) (Or.inl rfl) _).setCell (p := ⟨w.heap.size + 1, 2, none⟩) (Or.inl rfl) _)
    (by simpa using ((h.box.set_ 0 (.int .i64 room)).set_ 1 (.int .i64 f2)).set_ 2 (.slice a2 l2.length c2)) hl ho
theorem St.reset {f2 : Int} (h : St w r sv room f l f' l' a c W) : St w r sv room f l f2 [] none 0 ((W.setCell ⟨w.heap.size + 1, 1, none⟩ (.int .i64 f2)).setCell ⟨w.heap.size + 1, 2, none⟩ (.slice none 0 0)) :=
  h.stored (((Touch.refl (fun k => k = w.heap.size + 1) W).setCell (p := ⟨w.heap.size + 1, 1, none⟩) (Or.inl rfl) _).setCell (p := ⟨w.heap.size + 1, 2, none⟩) (Or.inl rfl) _)
    (by simpa using (h.box.set_ 1 (.int .i64 f2)).set_ 2 (.slice none 0 0)) (On.nil _ _ _) (fun b e => by simp [Value.ownBlock] at e)
theorem St.drewN (h : St w r sv room f l f' l' a c W) (n : Nat) : St w r sv room f l f' l' a c (W.drewN n) := h.bel (below_drewN' _ _)
theorem turned_blk {sv : Value} {f2 : Int} {l2 : List Int} {B : Nat} {t : TypeId} {cs : Array Value} (h : Turned W r sv room f2 l2 W') (hb : Blk W B t cs) (hn : ¬ fp r sv B) : Blk W' B t cs := by
  obtain ⟨_, _, hT, _⟩ := h
  exact hb.touch hT hn
/-- What the document hands back, in the state's words. -/
theorem St.ref {l2 : List Int} {a2 : Option Addr} {c2 : Nat} (h : St w r sv room f l f' l' a c W) (ho : ∀ b, (Value.slice a2 l2.length c2).ownBlock = some b → (Value.slice a l'.length c).ownBlock = some b ∨ W.heap.size ≤ b) :
    ∀ b, (Value.slice a2 l2.length c2).ownBlock = some b → w.heap.size + 2 ≤ b ∧ ¬ fp r sv b := fun b hb => by
  have hs := h.size
  rcases ho b hb with e | e
  · exact h.own b e
  · exact ⟨by omega, fun hk => by have := h.ring.lt b hk; omega⟩
theorem St.ref' {l2 : List Int} {a2 : Option Addr} {c2 : Nat} (h : St w r sv room f l f' l' a c W) (ho : ∀ b, (Value.slice a2 l2.length c2).ownBlock = some b → (Value.slice a l'.length c).ownBlock = some b ∨ W.heap.size ≤ b) (_ : Below W.heap.size W W') :
    ∀ b, (Value.slice a2 l2.length c2).ownBlock = some b → w.heap.size + 2 ≤ b ∧ ¬ fp r sv b := h.ref ho
end

theorem putF_eq {room f : Int} {l : List Int} (h : (l.length : Int) ≤ room) : Ref09.putF room f l = RingInt.putF room f l := by unfold Ref09.putF RingInt.putF; split <;> split <;> omega
theorem putL_eq {room v : Int} {l : List Int} (h : (l.length : Int) ≤ room) (hr : 1 ≤ room) : Ref09.putL room l v = RingInt.putL room l v := by
  unfold Ref09.putL RingInt.putL
  by_cases e : (l.length : Int) = room
  · rw [if_pos (by omega), if_pos e, List.drop_append_of_le_length (by omega)]
  · rw [if_neg (by omega), if_neg e]
theorem putL_len {room v : Int} {l : List Int} (h : (l.length : Int) ≤ room) (hr : 1 ≤ room) : ((RingInt.putL room l v).length : Int) ≤ room := by
  unfold RingInt.putL
  split <;> simp <;> omega
theorem putF_le {room f : Int} {l : List Int} : f ≤ RingInt.putF room f l ∧ RingInt.putF room f l ≤ f + 1 := by unfold RingInt.putF; split <;> omega

/-- Between two rounds of played. -/
def PInv (w : World) (room : Int) (k : Nat) (rp : Value) (W : World) : Prop :=
  ∃ r sv f l a c, rp = .pointer (some ⟨r, 0, none⟩) ∧ St w r sv room f l f l a c W ∧ (l.length : Int) ≤ room ∧ 0 ≤ f ∧ f ≤ 1099511627776 + 64 * k

/-- What played hands back. -/
def Played (w : World) (room : Int) (e : Ending) (W : World) : Prop :=
  (e = .returned (.tuple #[.pointer none, rv room 0 (.slice none 0 0), .bool true]) ∧ Below w.heap.size w W) ∨
  ∃ r sv f l a c, e = .returned (.tuple #[.pointer (some ⟨r, 0, none⟩), rv room f (.slice a l.length c), .bool true]) ∧ At W r room f sv l ∧ On W 3 1 (.slice a l.length c) l.length (l.map (.int .i64)) ∧
    (∀ b, fp r sv b → w.heap.size ≤ b) ∧ (∀ b, (Value.slice a l.length c).ownBlock = some b → w.heap.size ≤ b ∧ ¬ fp r sv b) ∧ (l.length : Int) ≤ room ∧ 0 < room ∧ room ≤ 40 ∧ 0 ≤ f ∧ f ≤ 1099511631616 ∧ Below w.heap.size w W

set_option maxRecDepth 100000 in
set_option maxHeartbeats 4000000 in
theorem played_out (w : World) (room : Int) (a : Option Addr) (len cap : Nat) (hc : room < 1 ∨ 40 < room ∨ 60 < (len : Int)) :
    Calls Try.prog 25 #[.int .i64 room, .slice a len cap] w fun e w' => Played w room e w' := by
  have hb : Blk ((w.alloc (.cells #[.int .i64 0, .int .i64 0, .slice none 0 0] 55)).alloc (.cells #[.int .i64 room, .int .i64 0, .slice none 0 0] 55)) w.heap.size 55 #[.int .i64 0, .int .i64 0, .slice none 0 0] := (Blk.new _ _ _).alloc _
  have g0 := hb.cell 0
  have g1 := hb.cell 1
  have g2 := hb.cell 2
  have e0 := hb.frozen 0
  have e1 := hb.frozen 1
  have e2 := hb.frozen 2
  clear hb
  by_cases c1 : room < 1
  · clear hc
    go_enter Try.func25, Try.ntmps25
    go_wp2_with fail
    go_region
    all_goals
      go_wp2_with fail
      refine bodyPost_ret (v := .tuple #[.pointer none, rv room 0 (.slice none 0 0), .bool true]) (by simp [results, rv, Try.results25, go_sem, g0, g1, g2]) rfl ?_
      refine .inl ⟨rfl, ?_⟩
      exact below_drewN (((Below.refl _ w).alloc (Nat.le_refl _) _).alloc (by simp) _) 1
  · by_cases c2 : 40 < room
    · clear hc
      go_enter Try.func25, Try.ntmps25
      go_wp2_with fail
      go_region
      all_goals
        go_wp2_with fail
        refine bodyPost_ret (v := .tuple #[.pointer none, rv room 0 (.slice none 0 0), .bool true]) (by simp [results, rv, Try.results25, go_sem, g0, g1, g2]) rfl ?_
        refine .inl ⟨rfl, ?_⟩
        exact below_drewN (((Below.refl _ w).alloc (Nat.le_refl _) _).alloc (by simp) _) 1
    · have c3 : 60 < (len : Int) := by omega
      clear hc
      go_enter Try.func25, Try.ntmps25
      go_wp2_with fail
      go_region
      all_goals
        go_wp2_with fail
        refine bodyPost_ret (v := .tuple #[.pointer none, rv room 0 (.slice none 0 0), .bool true]) (by simp [results, rv, Try.results25, go_sem, g0, g1, g2]) rfl ?_
        refine .inl ⟨rfl, ?_⟩
        exact below_drewN (((Below.refl _ w).alloc (Nat.le_refl _) _).alloc (by simp) _) 1

set_option maxRecDepth 100000 in
set_option maxHeartbeats 4000000 in
theorem played_any (w : World) (room : Int) (a : Option Addr) (len cap : Nat) (ops : List (Int × Int × Int)) (hops : Ops w a len ops) (hwf : OpsWf ops) :
    Calls Try.prog 25 #[.int .i64 room, .slice a len cap] w fun e w' => Played w room e w' := by
  by_cases hc : room < 1 ∨ 40 < room ∨ 60 < (len : Int)
  · exact played_out w room a len cap hc
  · have c1 : ¬ room < 1 := by omega
    have c2 : ¬ 40 < room := by omega
    have c3 : ¬ 60 < (len : Int) := by omega
    clear hc
    go_enter Try.func25, Try.ntmps25
    go_wp2_with fail
    refine (RingInt.new_ok room _ (by omega) (by omega)).mono ?_
    rintro e w1 ⟨rfl, rfl⟩
    go_wp2_with fail
    have hst : PInv w room 0 (.pointer (some ⟨w.heap.size + 1 + 1, 0, none⟩)) (((w.alloc (.cells #[.int .i64 0, .int .i64 0, .slice none 0 0] 55)).alloc (.cells #[.int .i64 room, .int .i64 0, .slice none 0 0] 55)).alloc (.cells #[.int .i64 room, .int .i64 0, .slice none 0 0] 94)) := by
      refine ⟨w.heap.size + 1 + 1, .slice none 0 0, 0, [], none, 0, rfl, ⟨?_, ?_, ?_, On.nil _ _ _, ?_, ?_, ?_⟩, by simp; omega, by omega, by omega⟩
      · have := RingInt.at_new ((w.alloc (.cells #[.int .i64 0, .int .i64 0, .slice none 0 0] 55)).alloc (.cells #[.int .i64 room, .int .i64 0, .slice none 0 0] 55)) room
        simpa using this
      · exact ((Blk.new _ _ _).alloc _).alloc _
      · have := (Blk.new (w.alloc (.cells #[.int .i64 0, .int .i64 0, .slice none 0 0] 55)) 55 #[.int .i64 room, .int .i64 0, .slice none 0 0]).alloc (.cells #[.int .i64 room, .int .i64 0, .slice none 0 0] 94)
        simpa using this
      · exact (((Below.refl _ w).alloc (Nat.le_refl _) _).alloc (by simp) _).alloc (by simp; omega) _
      · rintro b (e | e)
        · omega
        · simp [Value.ownBlock] at e
      · intro b e; simp [Value.ownBlock] at e
    go_loopw [8, 10] (fun rp i wr => ∃ k : Nat, k ≤ len ∧ i = .int .i64 k ∧ PInv w room k rp wr) (fun _ i _ => len - (intOf i).toNat)
    case atStart => exact ⟨0, Nat.zero_le _, rfl, hst⟩
    case round =>
      clear hst
      obtain ⟨k, hk, rfl, r, sv, f, l, a2, cc2, rfl, hS, hlr, hf0, hf1⟩ := hrel
      by_cases hlt : k < len
      · obtain ⟨x, hx⟩ : ∃ x, ops[k]? = some x := ⟨ops[k]'(by rw [hops.1]; exact hlt), by simp [hops.1, hlt]⟩
        have hxw := hwf x (List.mem_of_getElem? hx)
        obtain ⟨b, off, rfl, hb, hcell⟩ := hops.2 (by omega)
        obtain ⟨u0, u1, u2⟩ := hcell k x hx
        replace u0 := (hS.below.cell (p := ⟨b, off + k * 3, none⟩) hb).trans u0
        replace u1 := (hS.below.cell (p := ⟨b, off + k * 3 + 1, none⟩) hb).trans u1
        replace u2 := (hS.below.cell (p := ⟨b, off + k * 3 + 2, none⟩) hb).trans u2
        obtain ⟨kind, N, V⟩ := x
        dsimp only at u0 u1 u2 hxw
        have hi0 : (0 : Int) ≤ (k : Int) := by omega
        have hi1 : (k : Int) < (len : Int) := by omega
        clear hcell hx
        go_upto_block 2 with fail
        have hSa : St w r sv room f l f l a2 cc2 (wr.alloc (.cells #[.int .i64 kind, .int .i64 N, .int .i64 V] 84)) := hS.bel ((Below.refl _ wr).alloc (Nat.le_refl _) _)
        have hop : Blk (wr.alloc (.cells #[.int .i64 kind, .int .i64 N, .int .i64 V] 84)) wr.heap.size 84 #[.int .i64 kind, .int .i64 N, .int .i64 V] := Blk.new _ _ _
        have hofp : ¬ fp r sv wr.heap.size := fun e => by have := hS.ring.lt _ e; omega
        have hwz := hS.size
        obtain ⟨W0, hW0⟩ : ∃ W0, W0 = wr.alloc (.cells #[.int .i64 kind, .int .i64 N, .int .i64 V] 84) := ⟨_, rfl⟩
        rw [← hW0] at hSa hop ⊢
        clear hW0 hS u0 u1 u2 hb hops
        have v0 := hop.cell 0
        have v1 := hop.cell 1
        have v2 := hop.cell 2
        have q0 := hSa.box.cell 0
        have q1 := hSa.box.cell 1
        have q2 := hSa.box.cell 2
        go_cut [8] (fun rp wx => PInv w room (k + 1) rp wx)
        case first =>
          by_cases hk0 : kind = 0
          · subst hk0
            have pP := Lib.hid (fun W (hW : W.heap = W0.heap) => RingInt.put_any W r room f V sv l (hSa.ring.heap_eq hW) hf0 (by omega) (by omega) (by omega))
            have pN := fun W => Ref09.next_any W room f a2 l.length cc2 (by omega) (by omega)
            have pR := fun W hl => Ref09.put_any W room f V a2 cc2 l hl (by omega) (by omega) (by omega)
            rw [putF_eq hlr, putL_eq hlr (by omega)] at pR
            have g1 := putL_len (v := V) hlr (by omega)
            obtain ⟨g2, g3⟩ := @putF_le room f l
            obtain ⟨f3, hf3⟩ : ∃ f3, f3 = RingInt.putF room f l := ⟨_, rfl⟩
            obtain ⟨l3, hl3⟩ : ∃ l3, l3 = RingInt.putL room l V := ⟨_, rfl⟩
            rw [← hf3, ← hl3] at pR pP
            rw [← hf3] at g2 g3
            rw [← hl3] at g1
            unfold rv at pN pR
            have pN := Lib.hid pN
            have pR := Lib.hid pR
            clear hf3 hl3
            go_wp2_with fail
            go_region_held3 (fun w' => w'.cell? ⟨w.heap.size + 1, 0, none⟩ = some (.int .i64 room) ∧ w'.cell? ⟨w.heap.size + 1, 1, none⟩ = some (.int .i64 f) ∧ w'.cell? ⟨w.heap.size + 1, 2, none⟩ = some (.slice a2 l.length cc2) ∧ w'.cell? ⟨wr.heap.size, 2, none⟩ = some (.int .i64 V)) (first | go_keep | exact ⟨k0, k1, k2, k3⟩)
              (first
                | (go_at_call 29; refine (pP.out _ (by rfl)).mono ?_; rintro e W1 ⟨rfl, hT⟩; have hop1 := turned_blk hT (by exact hop) hofp; obtain ⟨sv2, hS1⟩ := (hSa.drewN _).turn hT; have k0 := hS1.box.cell 0; have k1 := hS1.box.cell 1; have k2 := hS1.box.cell 2; have k3 := hop1.cell 2)
                | (go_at_call 37; refine (pN.out _).mono ?_; rintro e W2 ⟨rfl, hN⟩; have hS2 := hS1.bel hN; have hop2 := hop1.below hN hop1.lt; have k0 := hS2.box.cell 0; have k1 := hS2.box.cell 1; have k2 := hS2.box.cell 2; have k3 := hop2.cell 2))
            go_wp2_with fail
            refine (pR.out _ hS2.list).mono ?_
            rintro e W3 ⟨sv3, rfl, hl3, hb3, ho3⟩
            dsimp only [rv]
            obtain ⟨a3, c3', rfl, hlc3, hcm3⟩ := hl3.slice
            have hS3 := hS2.bel hb3
            have m0 := hS3.box.cell 0
            have m1 := hS3.box.cell 1
            have m2 := hS3.box.cell 2
            have n0 := hS3.box.frozen 0
            have n1 := hS3.box.frozen 1
            have n2 := hS3.box.frozen 2
            go_wp2_with fail
            go_meet
            exact ⟨r, sv2, f3, l3, a3, c3', rfl, hS3.store hl3 (hS2.ref' ho3 hb3), g1, by omega, by omega⟩
          · by_cases hk1 : kind = 1
            · subst hk1
              have pR := fun W hl => Ref09.set_any W room f N V a2 cc2 l hl hf0 (by omega) (by omega) (by omega)
              have pS := fun W (hW : St w r sv room f l f l a2 cc2 W) => RingInt.set_any W r room f N V sv l hW.ring hf0 (by omega)
              have g1 : ((RingInt.setL f l N V).length : Int) ≤ room := by unfold RingInt.setL; split <;> (try split) <;> (try simp) <;> omega
              obtain ⟨l3, hl3⟩ : ∃ l3, l3 = RingInt.setL f l N V := ⟨_, rfl⟩
              obtain ⟨code, hcode⟩ : ∃ code, code = RingInt.atE f l.length N := ⟨_, rfl⟩
              rw [← hl3, ← hcode] at pR pS
              rw [← hl3] at g1
              unfold rv at pR
              have pR := Lib.hid pR
              have pS := Lib.hid pS
              clear hl3 hcode
              go_wp2_with fail
              refine (pR.out _ hSa.list).mono ?_
              rintro e W1 ⟨sv3, rfl, hl3, hb3, ho3⟩
              dsimp only [rv]
              obtain ⟨a3, c3', rfl, hlc3, hcm3⟩ := hl3.slice
              have hS1 := hSa.bel hb3
              have hop1 := hop.below hb3 hop.lt
              have k3 := hop1.cell 1
              have k4 := hop1.cell 2
              have ho4 := hSa.ref' ho3 hb3
              have hz1 := hb3.size
              have hop2 := hop1.alloc (.cells #[.int .i64 room, .int .i64 f, .slice a3 l3.length c3'] 55)
              have k5 := hop2.cell 1
              have k6 := hop2.cell 2
              go_wp2_with fail
              have hbn : Blk (W1.alloc (.cells #[.int .i64 room, .int .i64 f, .slice a3 l3.length c3'] 55)) W1.heap.size 55 #[.int .i64 room, .int .i64 f, .slice a3 l3.length c3'] := Blk.new _ _ _
              have hS2 := hS1.bel ((Below.refl _ W1).alloc (Nat.le_refl _) (.cells #[.int .i64 room, .int .i64 f, .slice a3 l3.length c3'] 55))
              have hl4 := hl3.alloc (.cells #[.int .i64 room, .int .i64 f, .slice a3 l3.length c3'] 55)
              refine (pS.out _ hS2).mono ?_
              rintro e W2 ⟨rfl, hT⟩
              have hbn2 := turned_blk hT hbn (fun e => by have := hS1.ring.lt _ e; omega)
              obtain ⟨sv2, hS3, hl5, ho5⟩ := hS2.turn2 hT hl4 ho4
              have j0 := hbn2.cell 0
              have j1 := hbn2.cell 1
              have j2 := hbn2.cell 2
              have m0 := hS3.box.cell 0
              have m1 := hS3.box.cell 1
              have m2 := hS3.box.cell 2
              have n0 := hS3.box.frozen 0
              have n1 := hS3.box.frozen 1
              have n2 := hS3.box.frozen 2
              go_wp2_with fail
              go_meet
              exact ⟨r, sv2, f, l3, a3, c3', rfl, hS3.store hl5 ho5, g1, by omega, by omega⟩
            · by_cases hk2 : kind = 2
              · subst hk2
                have pS := Lib.hid (fun W (hW : St w r sv room f l f l a2 cc2 W) => RingInt.drop_any W r room f N sv l hW.ring hf0 (by omega) (by omega) (by omega))
                have pR := fun W hl => Ref09.drop_any W room f N a2 cc2 l hl hf0 (by omega) (by omega)
                have g1 : ((RingInt.dropL f l N).length : Int) ≤ room := by unfold RingInt.dropL; split <;> (try simp) <;> omega
                have g2 : f ≤ RingInt.dropF f l.length N := by unfold RingInt.dropF; split <;> omega
                have g3 : RingInt.dropF f l.length N ≤ f + 40 := by unfold RingInt.dropF; split <;> omega
                obtain ⟨f3, hf3⟩ : ∃ f3, f3 = RingInt.dropF f l.length N := ⟨_, rfl⟩
                obtain ⟨l3, hl3⟩ : ∃ l3, l3 = RingInt.dropL f l N := ⟨_, rfl⟩
                rw [← hf3, ← hl3] at pR pS
                rw [← hf3] at g2 g3
                rw [← hl3] at g1
                unfold rv at pR
                have pR := Lib.hid pR
                clear hf3 hl3
                go_wp2_with fail
                refine (pS.out _ (by exact hSa)).mono ?_
                rintro e W1 ⟨rfl, hT⟩
                have hop1 := turned_blk hT hop hofp
                obtain ⟨sv2, hS1⟩ := hSa.turn hT
                have k0 := hS1.box.cell 0
                have k1 := hS1.box.cell 1
                have k2 := hS1.box.cell 2
                have k3 := hop1.cell 1
                go_wp2_with fail
                refine (pR.out _ hS1.list).mono ?_
                rintro e W3 ⟨sv3, rfl, hl3, hb3, ho3⟩
                dsimp only [rv]
                obtain ⟨a3, c3', rfl, hlc3, hcm3⟩ := hl3.slice
                have hS3 := hS1.bel hb3
                have m0 := hS3.box.cell 0
                have m1 := hS3.box.cell 1
                have m2 := hS3.box.cell 2
                have n0 := hS3.box.frozen 0
                have n1 := hS3.box.frozen 1
                have n2 := hS3.box.frozen 2
                go_wp2_with fail
                go_meet
                exact ⟨r, sv2, f3, l3, a3, c3', rfl, hS3.store hl3 (hS1.ref' ho3 hb3), g1, by omega, by omega⟩
              · by_cases hk3 : kind = 3
                · subst hk3
                  have pS := Lib.hid (fun W (hW : St w r sv room f l f l a2 cc2 W) => RingInt.cut_any W r room f N sv l hW.ring hf0 (by omega))
                  have pR := fun W hl => Ref09.cut_any W room f N a2 cc2 l hl hf0 (by omega) (by omega)
                  have g1 : ((RingInt.cutL f l N).length : Int) ≤ room := by unfold RingInt.cutL; split <;> (try simp) <;> omega
                  have g2 : f ≤ f := by omega
                  have g3 : f ≤ f + 40 := by omega
                  obtain ⟨l3, hl3⟩ : ∃ l3, l3 = RingInt.cutL f l N := ⟨_, rfl⟩
                  rw [← hl3] at pR pS
                  rw [← hl3] at g1
                  unfold rv at pR
                  have pR := Lib.hid pR
                  clear hl3
                  go_wp2_with fail
                  refine (pS.out _ (by exact hSa)).mono ?_
                  rintro e W1 ⟨rfl, hT⟩
                  have hop1 := turned_blk hT hop hofp
                  obtain ⟨sv2, hS1⟩ := hSa.turn hT
                  have k0 := hS1.box.cell 0
                  have k1 := hS1.box.cell 1
                  have k2 := hS1.box.cell 2
                  have k3 := hop1.cell 1
                  go_wp2_with fail
                  refine (pR.out _ hS1.list).mono ?_
                  rintro e W3 ⟨sv3, rfl, hl3, hb3, ho3⟩
                  dsimp only [rv]
                  obtain ⟨a3, c3', rfl, hlc3, hcm3⟩ := hl3.slice
                  have hS3 := hS1.bel hb3
                  have m0 := hS3.box.cell 0
                  have m1 := hS3.box.cell 1
                  have m2 := hS3.box.cell 2
                  have n0 := hS3.box.frozen 0
                  have n1 := hS3.box.frozen 1
                  have n2 := hS3.box.frozen 2
                  go_wp2_with fail
                  go_meet
                  exact ⟨r, sv2, f, l3, a3, c3', rfl, hS3.store hl3 (hS1.ref' ho3 hb3), g1, by omega, by omega⟩
                · by_cases hk4 : kind = 4
                  · subst hk4
                    by_cases hN : N < 0 ∨ 1099511627776 < N
                    · by_cases hN1 : N < 0
                      · go_wp2_with fail
                        go_roundw
                        case rel => exact ⟨k + 1, by omega, by simp, r, sv, f, l, a2, cc2, rfl, hSa, hlr, hf0, by omega⟩
                        case measure => simp [intOf]; omega
                      · have hN2 : 1099511627776 < N := by omega
                        clear hN
                        go_wp2_with fail
                        go_roundw
                        case rel => exact ⟨k + 1, by omega, by simp, r, sv, f, l, a2, cc2, rfl, hSa, hlr, hf0, by omega⟩
                        case measure => simp [intOf]; omega
                    · have hN1 : ¬ N < 0 := by omega
                      have hN2 : ¬ 1099511627776 < N := by omega
                      clear hN
                      have pS := Lib.hid (RingInt.reset_any W0 r room f N sv l hSa.ring)
                      go_wp2_with fail
                      refine pS.out.mono ?_
                      rintro e W1 ⟨rfl, hT⟩
                      have hop1 := turned_blk hT hop hofp
                      obtain ⟨sv2, hS1⟩ := hSa.turn hT
                      have k1 := hS1.box.cell 1
                      have k2 := hS1.box.cell 2
                      have n1 := hS1.box.frozen 1
                      have n2 := hS1.box.frozen 2
                      have k3 := hop1.cell 1
                      go_wp2_with fail
                      go_meet
                      exact ⟨r, sv2, N, [], none, 0, rfl, hS1.reset, by simp; omega, by omega, by omega⟩
                  · by_cases hk5 : kind = 5
                    · subst hk5
                      have pC := Lib.hid (RingInt.clone_any W0 r room f sv l hSa.ring (by omega))
                      have pP := Lib.hid (fun W (hW : St w r sv room f l f l a2 cc2 W) => RingInt.put_any W r room f V sv l hW.ring hf0 (by omega) (by omega) (by omega))
                      obtain ⟨g2, g3⟩ := @putF_le room f l
                      go_wp2_with fail
                      refine pC.out.mono ?_
                      rintro e W1 ⟨rn, svn, rfl, hAn, hTn, hFn⟩
                      have hBn : Below W0.heap.size W0 W1 := hTn.below (Nat.le_refl _) (fun k hk => hk.elim)
                      have hS1 := hSa.bel hBn
                      have hop1 := hop.below hBn hop.lt
                      have k1 := hop1.cell 1
                      have k2 := hop1.cell 2
                      have hlt1 := hAn.lt
                      go_wp2_with fail
                      refine (pP.out _ hS1).mono ?_
                      rintro e W2 ⟨rfl, hT⟩
                      have hop2 := turned_blk hT hop1 hofp
                      have hAn2 : At W2 rn room f svn l := by
                        obtain ⟨_, _, hT', _⟩ := hT
                        exact hAn.touch hT' (fun k hk hk2 => by have := hFn k hk; have := hSa.ring.lt k hk2; omega)
                      obtain ⟨sv2, hS2, hF2⟩ : ∃ sv2, St w r sv2 room (RingInt.putF room f l) (RingInt.putL room l V) f l a2 cc2 W2 ∧ ∀ k, fp r sv2 k → fp r sv k ∨ W1.heap.size ≤ k := by
                        obtain ⟨sv2, h1, h2, h3⟩ := hT
                        exact ⟨sv2, (hS1.turnAt h1 h2 h3), h3⟩
                      have pS := Lib.hid (RingInt.set_any W2 r room (RingInt.putF room f l) N V sv2 _ hS2.ring (by omega) (by omega))
                      have k1 := hop2.cell 1
                      have k2 := hop2.cell 2
                      go_wp2_with fail
                      refine pS.out.mono ?_
                      rintro e W3 ⟨rfl, hT2⟩
                      have hAn3 : At W3 rn room f svn l := by
                        obtain ⟨_, _, hT', _⟩ := hT2
                        exact hAn2.touch hT' (fun k hk hk2 => by have h1 := hFn k hk; have h2 := hlt1 k hk; exact (hF2 k hk2).elim (fun e => by have := hSa.ring.lt k e; omega) (fun e => by omega))
                      obtain ⟨sv3, hS3⟩ := hS2.turn hT2
                      go_wp2_with fail
                      go_meet
                      exact ⟨rn, svn, f, l, a2, cc2, rfl, ⟨hAn3, hS3.out, hS3.box, hS3.list, hS3.below, fun b hb => by have := hFn b hb; have := hSa.size; omega, fun b hb => ⟨(hS3.own b hb).1, fun hk => by have := hFn b hk; have := hSa.list.lt b hb; omega⟩⟩, hlr, hf0, by omega⟩
                    · go_wp2_with fail
                      go_roundw
                      case rel => exact ⟨k + 1, by omega, by simp, r, sv, f, l, a2, cc2, rfl, hSa, hlr, hf0, by omega⟩
                      case measure => simp [intOf]; omega
        case rest =>
          obtain ⟨r', sv', f', l', a', c', rfl, hS', hlr', hf0', hf1'⟩ := hcut
          have q0 := hS'.box.cell 0
          have q1 := hS'.box.cell 1
          have q2 := hS'.box.cell 2
          have pM := Lib.hid (SameI.same_any wc r' room f' sv' l' a' c' hS'.ring hf0' (by omega) hS'.list)
          unfold rv at pM
          go_wp2_with fail
          refine pM.out.mono ?_
          rintro e W1 ⟨rfl, hb1⟩
          go_wp2_with fail
          go_roundw
          case rel => exact ⟨k + 1, by omega, by simp, r', sv', f', l', a', c', rfl, hS'.bel hb1, hlr', hf0', by omega⟩
          case measure => simp [intOf]; omega
      · obtain rfl : k = len := by omega
        have q0 := hS.box.cell 0
        have q1 := hS.box.cell 1
        have q2 := hS.box.cell 2
        have g0 := hS.out.cell 0
        have g1 := hS.out.cell 1
        have g2 := hS.out.cell 2
        have e0 := hS.out.frozen 0
        have e1 := hS.out.frozen 1
        have e2 := hS.out.frozen 2
        go_wp2_with fail
        go_region
        all_goals
          go_wp2_with fail
          refine bodyPost_ret (v := .tuple #[.pointer (some ⟨r, 0, none⟩), rv room f (.slice a2 l.length cc2), .bool true]) (by simp [results, rv, Try.results25, go_sem, g0, g1, g2]) rfl ?_
          have T : Touch (fun k => k = w.heap.size) wr (((wr.setCell ⟨w.heap.size, 0, none⟩ (.int .i64 room)).setCell ⟨w.heap.size, 1, none⟩ (.int .i64 f)).setCell ⟨w.heap.size, 2, none⟩ (.slice a2 l.length cc2)).drew :=
            ((((Touch.refl (fun k => k = w.heap.size) wr).setCell (p := ⟨w.heap.size, 0, none⟩) (Or.inl rfl) _).setCell (p := ⟨w.heap.size, 1, none⟩) (Or.inl rfl) _).setCell (p := ⟨w.heap.size, 2, none⟩) (Or.inl rfl) _).drew
          exact .inr ⟨r, sv, f, l, a2, cc2, rfl, hS.ring.touch T (fun b hb e => by have := hS.far b hb; omega), hS.list.touch T (fun b hb e => by have := (hS.own b hb).1; omega), fun b hb => by have := hS.far b hb; omega,
            fun b hb => ⟨by have := (hS.own b hb).1; omega, (hS.own b hb).2⟩, hlr, by omega, by omega, hf0, by omega, hS.below.trans (T.below hS.below.size (fun b hb => by omega))⟩
end RingP
end Go.Proofs.Ytmipapfanelheaa
