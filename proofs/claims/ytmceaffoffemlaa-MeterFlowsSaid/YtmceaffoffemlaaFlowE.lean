/-
  MeterFlows: the flow and the page's, side by side.
-/
import Derived.Test.YtmceaffoffemlaaFlowD
namespace Go.Proofs.Ytmceaffoffemlaa.Flow
open Go.RowKit
set_option linter.all false

theorem on_apart {w : World} {e e' : TypeId} {size size' n n' : Nat} {v v' : Value} {xs xs' : List Value} (h : On w e size v n xs) (h' : On w e' size' v' n' xs') (hne : e ≠ e') : ∀ g, v.ownBlock = some g → v'.ownBlock ≠ some g := by
  intro g hg
  rcases h.2 with ⟨rfl, _⟩ | ⟨g1, cap, cur, rfl, hh, _⟩
  · simp [Value.ownBlock] at hg
  · have e1 : g1 = g := by simpa [Value.ownBlock] using hg
    subst e1
    exact h'.blk_ne (t := e) hh (fun e => hne e.symm)
structure MJ (w W : World) (t f r bx : Nat) (sv lv : Value) (L : List Int) (now peak all : Int) (L2 : List Int) (now2 peak2 all2 : Int) : Prop where
  F : FAt W f r sv t L now (last t L).sum peak all
  X : Blk W bx 58 #[.int .i64 t, lv, .int .i64 now2, .int .i64 peak2, .int .i64 all2]
  O : On W 2 1 lv L2.length (L2.map (.int .i64))
  D : ∀ g, lv.ownBlock = some g → sv.ownBlock ≠ some g
  f1 : w.heap.size ≤ f
  f2 : ∀ k, RingI64.fp r sv k → w.heap.size ≤ k
  f3 : w.heap.size ≤ bx
  B : Below w.heap.size w W
section
variable {w W W' W1 : World} {t f r bx : Nat} {sv lv : Value} {L : List Int} {now peak all : Int} {L2 : List Int} {now2 peak2 all2 : Int}
theorem MJ.flow (h : MJ w W t f r bx sv lv L now peak all L2 now2 peak2 all2) {sv' : Value} {L' : List Int} {now' peak' all' : Int} (hF : FAt W' f r sv' t L' now' (last t L').sum peak' all') (hT : Left W f r sv W' sv') : MJ w W' t f r bx sv' lv L' now' peak' all' L2 now2 peak2 all2 := by
  obtain ⟨hT, hO⟩ := hT
  have hbx : ¬ (bx = f ∨ RingI64.fp r sv bx) := by
    rintro (e | e | e)
    · exact Blk.ne_ h.X h.F.box (by decide) e
    · exact Blk.ne_ h.X h.F.ring.1 (by decide) e
    · exact h.F.ring.2.blk_ne h.X (by decide) e
  have hlv : ∀ g, lv.ownBlock = some g → ¬ (g = f ∨ RingI64.fp r sv g) := by
    intro g hg
    rintro (e | e | e)
    · exact h.O.blk_ne h.F.box (by decide) (e ▸ hg)
    · exact h.O.blk_ne h.F.ring.1 (by decide) (e ▸ hg)
    · exact h.D g hg e
  refine ⟨hF, h.X.touch hT hbx, h.O.touch hT hlv, ?_, h.f1, ?_, h.f3, h.B.trans (hT.below h.B.size (fun k hk => hk.elim (fun e => e ▸ h.f1) (h.f2 k)))⟩
  · intro g hg e
    rcases hO g (.inr e) with e' | e'
    · exact hlv g hg (.inr e')
    · have := h.O.lt g hg; omega
  · exact fun k hk => (hO k hk).elim (h.f2 k) (fun e => Nat.le_trans h.B.size e)
/-- The page's flow is laid anew. -/
theorem MJ.ref (h : MJ w W t f r bx sv lv L now peak all L2 now2 peak2 all2) {lv' : Value} {L' : List Int} {now' peak' all' : Int} (hB : Below W.heap.size W W1) (hO : On W1 2 1 lv' L'.length (L'.map (.int .i64))) (hf : ∀ g, lv'.ownBlock = some g → lv.ownBlock = some g ∨ W.heap.size ≤ g)
    (hT : Touch (fun k => k = bx) W1 W') (hX : Blk W' bx 58 #[.int .i64 t, lv', .int .i64 now', .int .i64 peak', .int .i64 all']) : MJ w W' t f r bx sv lv' L now peak all L' now' peak' all' := by
  have F1 := h.F.below hB
  have X1 := h.X.below hB h.X.lt
  have hfp : ∀ k, RingI64.fp r sv k → ¬ k = bx := by
    rintro k (e | e) rfl
    · exact Blk.ne_ X1 F1.ring.1 (by decide) e
    · exact F1.ring.2.blk_ne X1 (by decide) e
  refine ⟨⟨F1.box.touch hT (fun e => Blk.ne_ X1 F1.box (by decide) e.symm), F1.ring.touch hT hfp⟩, hX, hO.touch hT (fun g hg e => hO.blk_ne X1 (by decide) (e ▸ hg)), ?_, h.f1, h.f2, h.f3, (h.B.trans (hB.mono h.B.size)).trans (hT.below (by have := h.B.size; have := hB.size; omega) (fun k hk => hk ▸ h.f3))⟩
  intro g hg e
  rcases hf g hg with e' | e'
  · exact h.D g e' e
  · have := h.F.ring.2.lt g e; omega
theorem MJ.after (h : MJ w W t f r bx sv lv L now peak all L2 now2 peak2 all2) (hB : Below W.heap.size W W') : MJ w W' t f r bx sv lv L now peak all L2 now2 peak2 all2 :=
  ⟨h.F.below hB, h.X.below hB h.X.lt, h.O.below hB h.O.lt, h.D, h.f1, h.f2, h.f3, h.B.trans (hB.mono h.B.size)⟩
theorem MJ.cells (h : MJ w W t f r bx sv lv L now peak all L2 now2 peak2 all2) : (W.cell? ⟨bx, 0, none⟩ = some (.int .i64 t) ∧ W.cell? ⟨bx, 1, none⟩ = some lv ∧ W.cell? ⟨bx, 2, none⟩ = some (.int .i64 now2) ∧ W.cell? ⟨bx, 3, none⟩ = some (.int .i64 peak2) ∧ W.cell? ⟨bx, 4, none⟩ = some (.int .i64 all2)) ∧ ∀ i, W.frozen? ⟨bx, i, none⟩ = false :=
  ⟨⟨h.X.cell 0, h.X.cell 1, h.X.cell 2, h.X.cell 3, h.X.cell 4⟩, fun i => h.X.frozen i⟩
end
/-- The script's calls: a tick, or an amount. -/
def ORow (w : World) (a : Option Addr) (n : Nat) (ops : List (Bool × Int)) : Prop :=
  ops.length = n ∧ (0 < n → ∃ b off, a = some ⟨b, off, none⟩ ∧ b < w.heap.size ∧ ∀ j x, ops[j]? = some x → w.cell? ⟨b, off + j * 2, none⟩ = some (.bool x.1) ∧ w.cell? ⟨b, off + j * 2 + 1, none⟩ = some (.int .i64 x.2))
end Go.Proofs.Ytmceaffoffemlaa.Flow
