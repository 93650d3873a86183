/-
  Two players play: what both pressed, and the state behind that; the program's Match.
-/
import Derived.Test.YtblnfkhaicjeaaaBotG
import Derived.Test.YtblnfkhaicjeaaaGparts
namespace Go.Proofs.Ytblnfkhaicjeaaa.Bot
open Go.RowKit Go.Sort Go.Proofs.Ytblnfkhaicjeaaa.Num Go.Proofs.Ytblnfkhaicjeaaa.Gm Go.Proofs.Ytblnfkhaicjeaaa.Byt
set_option linter.all false

def cN (f : F) (who : Nat) (s : Int) (bold : Nat) : Nat := chooseN (bod f (2 + who * 7)) (bod f (2 + (1 - who) * 7)) (dangerV f who) s bold
def cS (f : F) (who : Nat) (s : Int) (bold : Nat) : Int := chooseS (dangerV f who) s bold
/-- The pressed buttons of k frames, and both numbers by chance. -/
def matL (f0 : F) (wa ba wb bb : Nat) (s t : Int) : Nat → List (Nat × Nat) × Int × Int
  | 0 => ([], s, t)
  | k + 1 => ((matL f0 wa ba wb bb s t k).1 ++ [(cN (playF f0 (matL f0 wa ba wb bb s t k).1 k) wa (matL f0 wa ba wb bb s t k).2.1 ba, cN (playF f0 (matL f0 wa ba wb bb s t k).1 k) wb (matL f0 wa ba wb bb s t k).2.2 bb)],
      cS (playF f0 (matL f0 wa ba wb bb s t k).1 k) wa (matL f0 wa ba wb bb s t k).2.1 ba, cS (playF f0 (matL f0 wa ba wb bb s t k).1 k) wb (matL f0 wa ba wb bb s t k).2.2 bb)
section
variable (f0 : F) (wa ba wb bb : Nat) (s t : Int)
theorem matL_len : ∀ k, (matL f0 wa ba wb bb s t k).1.length = k
  | 0 => rfl
  | k + 1 => by rw [matL, List.length_append, matL_len k]; rfl
theorem matL_lt : ∀ k, ∀ x ∈ (matL f0 wa ba wb bb s t k).1, x.1 < 65536 ∧ x.2 < 65536
  | 0, x, hx => by cases hx
  | k + 1, x, hx => by
    rw [matL] at hx
    rcases List.mem_append.1 hx with h | h
    · exact matL_lt k x h
    · obtain rfl := List.mem_singleton.1 h
      exact ⟨(chooseN_mod _ _ _ _ _).2, (chooseN_mod _ _ _ _ _).2⟩
theorem matL_in (h0 : 0 ≤ s ∧ s < 4294967296) (h1 : 0 ≤ t ∧ t < 4294967296) : ∀ k, (0 ≤ (matL f0 wa ba wb bb s t k).2.1 ∧ (matL f0 wa ba wb bb s t k).2.1 < 4294967296) ∧ (0 ≤ (matL f0 wa ba wb bb s t k).2.2 ∧ (matL f0 wa ba wb bb s t k).2.2 < 4294967296)
  | 0 => ⟨h0, h1⟩
  | k + 1 => ⟨chooseS_in _ _ _, chooseS_in _ _ _⟩
end
theorem inA_last (ls : List (Nat × Nat)) (x : Nat × Nat) : inA (ls ++ [x]) ls.length = fun i => if i = 0 then x.1 else x.2 := by
  funext i
  unfold inA
  rw [List.getD_eq_getElem?_getD, List.getElem?_append_right (Nat.le_refl _), Nat.sub_self]
  rfl
theorem play_snoc (f : F) (ls : List (Nat × Nat)) (x : Nat × Nat) : playF f (ls ++ [x]) (ls.length + 1) = stepF (playF f ls ls.length) (fun i => if i = 0 then x.1 else x.2) := by
  rw [playF, inA_last, play_app1 f ls [x] ls.length (Nat.le_refl _)]

/-- What lies there while two play: both players, the state, the result, the list. -/
structure MX (T : TypeId) (w W : World) (gs gr ga gb wa ba wb bb : Nat) (s t : Int) (C : Array Value) (v : Value) (ls : List (Nat × Nat)) : Prop where
  pa : Blk W ga T #[.int .i64 wa, .int .u32 s, .int .i64 ba]
  pb : Blk W gb T #[.int .i64 wb, .int .u32 t, .int .i64 bb]
  st : Blk W gs 33 C
  r : Blk W gr 33 Try.zeroCells33
  on : On W 48 2 v ls.length (inC ls)
  tc : Touch (fun k => k = ga ∨ k = gb) w W
  ab : ga ≠ gb
  sa : gs ≠ ga
  sb : gs ≠ gb
  ra : gr ≠ ga
  rb : gr ≠ gb
  sr : gs ≠ gr
  hs : w.heap.size ≤ gs
  hr : w.heap.size ≤ gr
  fv : ∀ g, v.ownBlock = some g → w.heap.size ≤ g
  hT : 48 ≠ T
section
variable {T : TypeId} {w W W' : World} {gs gr ga gb wa ba wb bb : Nat} {s t s' t' : Int} {C C' : Array Value} {v v' : Value} {ls ls' : List (Nat × Nat)}
theorem on_ne {b : Nat} {T' : TypeId} {cs : Array Value} (h : On W 48 2 v ls.length (inC ls)) (hb : Blk W b T' cs) (hT : 48 ≠ T') : ∀ g, v.ownBlock = some g → ¬ g = b := fun g hg e => by
  subst e; exact On.blk_ne h hb hT hg
theorem MX.below (h : MX T w W gs gr ga gb wa ba wb bb s t C v ls) (hb : RowKit.Below W.heap.size W W') : MX T w W' gs gr ga gb wa ba wb bb s t C v ls :=
  { h with
    pa := Blk.below h.pa hb (Blk.lt h.pa)
    pb := Blk.below h.pb hb (Blk.lt h.pb)
    st := Blk.below h.st hb (Blk.lt h.st)
    r := Blk.below h.r hb (Blk.lt h.r)
    on := On.below h.on hb (On.lt h.on)
    tc := h.tc.trans (Touch.of_below hb (S := fun k => k = ga ∨ k = gb)) (fun k hk => .inl hk) }
theorem MX.ta (h : MX T w W gs gr ga gb wa ba wb bb s t C v ls) (hp : Blk W' ga T #[.int .i64 wa, .int .u32 s', .int .i64 ba]) (hb : Touch (fun k => k = ga) W W') : MX T w W' gs gr ga gb wa ba wb bb s' t C v ls :=
  { h with
    pa := hp
    pb := Blk.touch h.pb hb h.ab.symm
    st := Blk.touch h.st hb h.sa
    r := Blk.touch h.r hb h.ra
    on := On.touch h.on hb (on_ne h.on h.pa h.hT)
    tc := h.tc.trans hb (fun k hk => .inl (.inl hk)) }
theorem MX.tb (h : MX T w W gs gr ga gb wa ba wb bb s t C v ls) (hp : Blk W' gb T #[.int .i64 wb, .int .u32 t', .int .i64 bb]) (hb : Touch (fun k => k = gb) W W') : MX T w W' gs gr ga gb wa ba wb bb s t' C v ls :=
  { h with
    pa := Blk.touch h.pa hb h.ab
    pb := hp
    st := Blk.touch h.st hb h.sb
    r := Blk.touch h.r hb h.rb
    on := On.touch h.on hb (on_ne h.on h.pb h.hT)
    tc := h.tc.trans hb (fun k hk => .inl (.inr hk)) }
theorem MX.tz (h : MX T w W gs gr ga gb wa ba wb bb s t C v ls) {gz : Nat} (hz : w.heap.size ≤ gz) (ha : ga ≠ gz) (hb' : gb ≠ gz) (hs' : gs ≠ gz) (hr' : gr ≠ gz) (hv : v.ownBlock ≠ some gz) (hb : Touch (fun k => k = gz) W W') : MX T w W' gs gr ga gb wa ba wb bb s t C v ls :=
  { h with
    pa := Blk.touch h.pa hb ha
    pb := Blk.touch h.pb hb hb'
    st := Blk.touch h.st hb hs'
    r := Blk.touch h.r hb hr'
    on := On.touch h.on hb (fun g hg e => hv (by rw [hg, e]))
    tc := h.tc.trans hb (fun k hk => .inr (by omega)) }
theorem MX.ts (h : MX T w W gs gr ga gb wa ba wb bb s t C v ls) (hp : Blk W' gs 33 C') (hb : Touch (fun k => k = gs) W W') : MX T w W' gs gr ga gb wa ba wb bb s t C' v ls :=
  { h with
    pa := Blk.touch h.pa hb h.sa.symm
    pb := Blk.touch h.pb hb h.sb.symm
    st := hp
    r := Blk.touch h.r hb h.sr.symm
    on := On.touch h.on hb (on_ne h.on h.st (by decide))
    tc := h.tc.trans hb (fun k hk => .inr (by have := h.hs; omega)) }
theorem MX.app (h : MX T w W gs gr ga gb wa ba wb bb s t C v ls) (hon : On W' 48 2 v' ls'.length (inC ls')) (hg : W.grownBy W' v.ownBlock) (hv : v'.ownBlock = v.ownBlock ∨ v'.ownBlock = some W.heap.size) : MX T w W' gs gr ga gb wa ba wb bb s t C v' ls' :=
  { h with
    pa := Blk.grown h.pa hg (fun e => On.blk_ne h.on h.pa h.hT e.symm)
    pb := Blk.grown h.pb hg (fun e => On.blk_ne h.on h.pb h.hT e.symm)
    st := Blk.grown h.st hg (fun e => On.blk_ne h.on h.st (by decide) e.symm)
    r := Blk.grown h.r hg (fun e => On.blk_ne h.on h.r (by decide) e.symm)
    on := hon
    tc := h.tc.grown hg (fun k hk => .inr (h.fv k hk))
    fv := fun g hg' => by
      rcases hv with e | e
      · exact h.fv g (by rw [← e]; exact hg')
      · rw [e] at hg'
        have := h.tc.size
        cases hg'; exact this }
end
end Go.Proofs.Ytblnfkhaicjeaaa.Bot
