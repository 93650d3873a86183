/-
  net: a script of calls, as it lies in memory. Over any program.
-/
import Derived.Test.YtmceaffoffemlaaNetG
namespace Go.Proofs.Ytmceaffoffemlaa.Netw
open Go.RowKit
set_option linter.all false

structure OpR where
  k : Int
  to_ : Int
  by_ : Int
  i : Int
  bt : Int
  da : Option Addr
  dl : Nat
  dc : Nat
  bs : List Int
  oft : Int
/-- A script that came in. -/
def Scr (w : World) (x : Option Addr) (len : Nat) (ops : List OpR) : Prop :=
  ops.length = len ∧ (∀ o ∈ ops, Row .u8 w o.da o.dl o.bs ∧ (-9223372036854775808 ≤ o.i ∧ o.i ≤ 9223372036854775807)) ∧
  (0 < len → ∃ b off, x = some ⟨b, off, none⟩ ∧ b < w.heap.size ∧ ∀ (j : Nat) (o : OpR), ops[j]? = some o →
    w.cell? ⟨b, off + j * 7, none⟩ = some (.int .i64 o.k) ∧ w.cell? ⟨b, off + j * 7 + 1, none⟩ = some (.int .i64 o.to_) ∧ w.cell? ⟨b, off + j * 7 + 2, none⟩ = some (.int .i64 o.by_) ∧ w.cell? ⟨b, off + j * 7 + 3, none⟩ = some (.int .i64 o.i) ∧
    w.cell? ⟨b, off + j * 7 + 4, none⟩ = some (.int .u8 o.bt) ∧ w.cell? ⟨b, off + j * 7 + 5, none⟩ = some (.slice o.da o.dl o.dc) ∧ w.cell? ⟨b, off + j * 7 + 6, none⟩ = some (.int .i64 o.oft))
theorem Scr.below {w W : World} {x : Option Addr} {len : Nat} {ops : List OpR} (h : Scr w x len ops) (hb : Below w.heap.size w W) : Scr W x len ops := by
  obtain ⟨h1, h2, h3⟩ := h
  refine ⟨h1, fun o ho => ⟨(h2 o ho).1.below hb, (h2 o ho).2⟩, fun hp => ?_⟩
  obtain ⟨b, off, e, hlt, hc⟩ := h3 hp
  have kc : ∀ o' v, w.cell? ⟨b, o', none⟩ = some v → W.cell? ⟨b, o', none⟩ = some v := fun o' v hv => (hb.cell (p := ⟨b, o', none⟩) hlt).trans hv
  refine ⟨b, off, e, Nat.lt_of_lt_of_le hlt hb.size, fun j o ho => ?_⟩
  obtain ⟨c0, c1, c2, c3, c4, c5, c6⟩ := hc j o ho
  exact ⟨kc _ _ c0, kc _ _ c1, kc _ _ c2, kc _ _ c3, kc _ _ c4, kc _ _ c5, kc _ _ c6⟩
end Go.Proofs.Ytmceaffoffemlaa.Netw
