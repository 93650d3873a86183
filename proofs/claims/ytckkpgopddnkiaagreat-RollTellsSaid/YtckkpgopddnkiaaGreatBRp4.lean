/-
  Texts joined: Gm, Gst, Gn, Gmul, Blk. No condition.
-/
import Derived.Test.YtckkpgopddnkiaaGreatBRp3
import Derived.Deep.MidRow
import Derived.IntWalk
import Derived.Laws.Bits64b
namespace Go.Proofs.YtckkpgopddnkiaaGreat.Gm
open Go.RowKit Go.Proofs.YtckkpgopddnkiaaGreat.Num
set_option linter.all false

abbrev F := Nat → Int
structure Body where
  (x y vx vy life cool facing : Int)
structure Shot where
  (on x y vx owner frames : Int)
def bod (f : F) (o : Nat) : Body := ⟨f o, f (o + 1), f (o + 2), f (o + 3), f (o + 4), f (o + 5), f (o + 6)⟩
def sho (f : F) (o : Nat) : Shot := ⟨f o, f (o + 1), f (o + 2), f (o + 3), f (o + 4), f (o + 5)⟩
def put (f : F) (k : Nat) (v : Int) : F := fun j => if j = k then v else f j
def setB (f : F) (o : Nat) (b : Body) : F := put (put (put (put (put (put (put f o b.x) (o + 1) b.y) (o + 2) b.vx) (o + 3) b.vy) (o + 4) b.life) (o + 5) b.cool) (o + 6) b.facing
def setS (f : F) (o : Nat) (s : Shot) : F := put (put (put (put (put (put f o s.on) (o + 1) s.x) (o + 2) s.y) (o + 3) s.vx) (o + 4) s.owner) (o + 5) s.frames
theorem put_eq (f : F) (k : Nat) (v : Int) : put f k v k = v := by simp [put]
theorem put_ne (f : F) {k j : Nat} (v : Int) (h : j ≠ k) : put f k v j = f j := by simp [put, h]
theorem setB_bod (f : F) (o : Nat) (b : Body) : bod (setB f o b) o = b := by simp [bod, setB, put]
theorem setS_sho (f : F) (o : Nat) (b : Shot) : sho (setS f o b) o = b := by simp [sho, setS, put]
theorem setB_out (f : F) (o : Nat) (b : Body) {j : Nat} (h : j < o ∨ o + 7 ≤ j) : setB f o b j = f j := by
  unfold setB
  rw [put_ne _ _ (by omega), put_ne _ _ (by omega), put_ne _ _ (by omega), put_ne _ _ (by omega), put_ne _ _ (by omega), put_ne _ _ (by omega), put_ne _ _ (by omega)]
theorem setS_out (f : F) (o : Nat) (b : Shot) {j : Nat} (h : j < o ∨ o + 6 ≤ j) : setS f o b j = f j := by
  unfold setS
  rw [put_ne _ _ (by omega), put_ne _ _ (by omega), put_ne _ _ (by omega), put_ne _ _ (by omega), put_ne _ _ (by omega), put_ne _ _ (by omega)]
theorem bod_congr {f g : F} {o : Nat} (h : ∀ j, o ≤ j → j < o + 7 → f j = g j) : bod f o = bod g o := by
  unfold bod
  rw [h o (by omega) (by omega), h (o + 1) (by omega) (by omega), h (o + 2) (by omega) (by omega), h (o + 3) (by omega) (by omega), h (o + 4) (by omega) (by omega), h (o + 5) (by omega) (by omega), h (o + 6) (by omega) (by omega)]
theorem sho_congr {f g : F} {o : Nat} (h : ∀ j, o ≤ j → j < o + 6 → f j = g j) : sho f o = sho g o := by
  unfold sho
  rw [h o (by omega) (by omega), h (o + 1) (by omega) (by omega), h (o + 2) (by omega) (by omega), h (o + 3) (by omega) (by omega), h (o + 4) (by omega) (by omega), h (o + 5) (by omega) (by omega)]

/-! ### One body -/
def mulV (v : Int) : Int := v * 57344 / 65536
def walkB (b : Body) (n : Nat) : Body :=
  if n % 2 = n / 2 % 2 then { b with vx := mulV b.vx }
  else if n % 2 = 1 then { b with facing := -1, vx := clampV (hold (b.vx + -16384)) (-196608) 196608 }
  else { b with facing := 1, vx := clampV (hold (b.vx + 16384)) (-196608) 196608 }
def jumpV (b : Body) (n : Nat) : Int := if n / 4 % 2 = 1 ∧ b.y = 0 then 327680 else b.vy
def dropV (b : Body) (n : Nat) : Int := if 0 < b.y ∨ jumpV b n ≠ 0 then hold (jumpV b n - 21845) else jumpV b n
def fallB (b : Body) (n : Nat) : Body :=
  if hold (b.y + dropV b n) ≤ 0 then { b with y := 0, vy := 0 } else { b with y := hold (b.y + dropV b n), vy := dropV b n }
def slideB (b : Body) : Body :=
  if clampV (hold (b.x + b.vx)) 0 13107200 = hold (b.x + b.vx) then { b with x := clampV (hold (b.x + b.vx)) 0 13107200 }
  else { b with x := clampV (hold (b.x + b.vx)) 0 13107200, vx := 0 }
def moveB (b : Body) (n : Nat) : Body := slideB (fallB (walkB b n) n)
def bornB (i : Nat) : Body := if i = 1 then ⟨9830400, 0, 0, 0, 100, 0, -1⟩ else ⟨3276800, 0, 0, 0, 100, 0, 1⟩

/-! ### Shots -/
def freeK (f : F) : Nat :=
  if f 16 = 0 then 0 else if f 22 = 0 then 1 else if f 28 = 0 then 2 else if f 34 = 0 then 3 else if f 40 = 0 then 4 else if f 46 = 0 then 5 else if f 52 = 0 then 6 else if f 58 = 0 then 7 else 8
theorem freeK_eq (f : F) (k : Nat) (hk : k ≤ 8) (h : ∀ j, j < k → f (16 + j * 6) ≠ 0) (h0 : k < 8 → f (16 + k * 6) = 0) : freeK f = k := by
  have a0 := h 0; have a1 := h 1; have a2 := h 2; have a3 := h 3; have a4 := h 4; have a5 := h 5; have a6 := h 6; have a7 := h 7
  simp only [Nat.zero_mul, Nat.add_zero, Nat.reduceMul, Nat.reduceAdd] at a0 a1 a2 a3 a4 a5 a6 a7
  unfold freeK
  match k, hk with
  | 0, _ => rw [if_pos (h0 (by omega))]
  | 1, _ => rw [if_neg (a0 (by omega)), if_pos (h0 (by omega))]
  | 2, _ => rw [if_neg (a0 (by omega)), if_neg (a1 (by omega)), if_pos (h0 (by omega))]
  | 3, _ => rw [if_neg (a0 (by omega)), if_neg (a1 (by omega)), if_neg (a2 (by omega)), if_pos (h0 (by omega))]
  | 4, _ => rw [if_neg (a0 (by omega)), if_neg (a1 (by omega)), if_neg (a2 (by omega)), if_neg (a3 (by omega)), if_pos (h0 (by omega))]
  | 5, _ => rw [if_neg (a0 (by omega)), if_neg (a1 (by omega)), if_neg (a2 (by omega)), if_neg (a3 (by omega)), if_neg (a4 (by omega)), if_pos (h0 (by omega))]
  | 6, _ => rw [if_neg (a0 (by omega)), if_neg (a1 (by omega)), if_neg (a2 (by omega)), if_neg (a3 (by omega)), if_neg (a4 (by omega)), if_neg (a5 (by omega)), if_pos (h0 (by omega))]
  | 7, _ => rw [if_neg (a0 (by omega)), if_neg (a1 (by omega)), if_neg (a2 (by omega)), if_neg (a3 (by omega)), if_neg (a4 (by omega)), if_neg (a5 (by omega)), if_neg (a6 (by omega)), if_pos (h0 (by omega))]
  | 8, _ => rw [if_neg (a0 (by omega)), if_neg (a1 (by omega)), if_neg (a2 (by omega)), if_neg (a3 (by omega)), if_neg (a4 (by omega)), if_neg (a5 (by omega)), if_neg (a6 (by omega)), if_neg (a7 (by omega))]
theorem freeK_free (f : F) (h : freeK f < 8) : f (16 + freeK f * 6) = 0 := by
  unfold freeK at h ⊢
  (repeat' split at h) <;> simp_all
def shotOf (b : Body) (i : Nat) : Shot := ⟨1, b.x, hold (b.y + 65536), clampV b.facing (-1) 1 * 393216, i, 60⟩
def fireF (f : F) (i n : Nat) : F :=
  if 0 < f (2 + i * 7 + 5) then put f (2 + i * 7 + 5) (f (2 + i * 7 + 5) - 1)
  else if n / 16 % 2 = 1 ∧ freeK f < 8 then put (setS f (16 + freeK f * 6) (shotOf (bod f (2 + i * 7)) i)) (2 + i * 7 + 5) 15
  else f
def bodyF (f : F) (i n : Nat) : F := fireF (setB f (2 + i * 7) (moveB (bod f (2 + i * 7)) n)) i n
def absV (z : Int) : Int := if z = -9223372036854775808 then 9223372036854775807 else if z < 0 then -z else z
def nearV (a b r : Int) : Bool := decide (absV (hold (a - b)) ≤ r)
def zeroS : Shot := ⟨0, 0, 0, 0, 0, 0⟩
def whoV (s : Shot) : Nat := if s.owner % 2 = 0 then 1 else 0
def hitsV (s : Shot) (b : Body) : Bool := nearV s.x b.x 262144 && nearV s.y (hold (b.y + 65536)) 393216
def painV (seed : Int) (n : Nat) : Int := if n / 32 % 2 = 1 then 4 + seed / 65536 % 3 else 10
def hurtF (f : F) (who n : Nat) : F :=
  if 0 < f (2 + who * 7 + 4) - painV (f 1) n then put f (2 + who * 7 + 4) (f (2 + who * 7 + 4) - painV (f 1) n)
  else setB (put f (64 + (1 - who)) (f (64 + (1 - who)) + 1)) (2 + who * 7) (bornB who)
def goneV (s : Shot) : Bool := decide (s.frames ≤ 0) || decide (s.x < 0) || decide (13107200 < s.x)
def flown (s : Shot) : Shot := { s with x := hold (s.x + s.vx), frames := s.frames - 1 }
def flyF (f : F) (k : Nat) (n : Nat → Nat) : F :=
  let s := flown (sho f (16 + k * 6))
  if goneV s then setS f (16 + k * 6) zeroS
  else if hitsV s (bod f (2 + whoV s * 7)) then hurtF (setS f (16 + k * 6) zeroS) (whoV s) (n (whoV s))
  else setS f (16 + k * 6) s
def fliesF (f : F) (n : Nat → Nat) : Nat → F
  | 0 => f
  | k + 1 => if fliesF f n k (16 + k * 6) = 0 then fliesF f n k else flyF (fliesF f n k) k n
def rollV (s : Int) : Int := (s * 1664525 + 1013904223) % 4294967296
def headF (f : F) : F := put (put f 0 (f 0 + 1)) 1 (rollV (f 1))
def stepF (f : F) (n : Nat → Nat) : F := fliesF (bodyF (bodyF (headF f) 0 (n 0)) 1 (n 1)) n 8
def newF (seed : Int) : F := setB (setB (put (fun _ => 0) 1 seed) 2 (bornB 0)) 9 (bornB 1)

/-! ### What stays true -/
structure BodyOk (b : Body) : Prop where
  x0 : 0 ≤ b.x
  x1 : b.x ≤ 13107200
  y0 : 0 ≤ b.y
  y1 : b.y ≤ 9223372036854775807
  vx0 : -196608 ≤ b.vx
  vx1 : b.vx ≤ 196608
  vy0 : -9223372036854775808 ≤ b.vy
  vy1 : b.vy ≤ 9223372036854775807
  l0 : 1 ≤ b.life
  l1 : b.life ≤ 100
  c0 : 0 ≤ b.cool
  c1 : b.cool ≤ 15
  fc : b.facing = 1 ∨ b.facing = -1
structure ShotIn (s : Shot) : Prop where
  on : s.on = 1
  x0 : 0 ≤ s.x
  x1 : s.x ≤ 13107200
  y0 : -9223372036854775808 ≤ s.y
  y1 : s.y ≤ 9223372036854775807
  vx : s.vx = 393216 ∨ s.vx = -393216
  ow : s.owner = 0 ∨ s.owner = 1
  f0 : 1 ≤ s.frames
  f1 : s.frames ≤ 60
def ShotOk (s : Shot) : Prop := s = zeroS ∨ ShotIn s
structure Inv (fr sc : Int) (f : F) : Prop where
  frame : f 0 = fr
  seed0 : 0 ≤ f 1
  seed1 : f 1 < 4294967296
  b : ∀ i, i < 2 → BodyOk (bod f (2 + i * 7))
  s : ∀ k, k < 8 → ShotOk (sho f (16 + k * 6))
  p0 : 0 ≤ f 64
  p1 : f 64 ≤ sc
  q0 : 0 ≤ f 65
  q1 : f 65 ≤ sc

theorem hold_le {z : Int} : -9223372036854775808 ≤ hold z ∧ hold z ≤ 9223372036854775807 := hold_bd z
theorem clampV_in (z : Int) {a b : Int} (h : a ≤ b) : a ≤ clampV z a b ∧ clampV z a b ≤ b := by unfold clampV; omega
theorem bornB_ok (i : Nat) : BodyOk (bornB i) := by
  unfold bornB
  split <;> constructor <;> simp
theorem mulV_in {v : Int} (h0 : -196608 ≤ v) (h1 : v ≤ 196608) : -196608 ≤ mulV v ∧ mulV v ≤ 196608 := by unfold mulV; omega
theorem walkB_ok {b : Body} (h : BodyOk b) (n : Nat) : BodyOk (walkB b n) := by
  unfold walkB
  have m := mulV_in h.vx0 h.vx1
  split
  · exact { h with vx0 := m.1, vx1 := m.2 }
  · split
    · have c := clampV_in (hold (b.vx + -16384)) (a := -196608) (b := 196608) (by omega)
      exact { h with vx0 := c.1, vx1 := c.2, fc := .inr rfl }
    · have c := clampV_in (hold (b.vx + 16384)) (a := -196608) (b := 196608) (by omega)
      exact { h with vx0 := c.1, vx1 := c.2, fc := .inl rfl }
theorem jumpV_in {b : Body} (h : BodyOk b) (n : Nat) : -9223372036854775808 ≤ jumpV b n ∧ jumpV b n ≤ 9223372036854775807 := by
  unfold jumpV
  split
  · omega
  · exact ⟨h.vy0, h.vy1⟩
theorem dropV_in {b : Body} (h : BodyOk b) (n : Nat) : -9223372036854775808 ≤ dropV b n ∧ dropV b n ≤ 9223372036854775807 := by
  unfold dropV
  split
  · exact hold_bd _
  · exact jumpV_in h n
theorem fallB_ok {b : Body} (h : BodyOk b) (n : Nat) : BodyOk (fallB b n) := by
  unfold fallB
  have d := dropV_in h n
  split
  · exact { h with y0 := by simp, y1 := by simp, vy0 := by simp, vy1 := by simp }
  · exact { h with y0 := by simp only []; omega, y1 := (hold_bd _).2, vy0 := d.1, vy1 := d.2 }
theorem slideB_ok {b : Body} (h : BodyOk b) : BodyOk (slideB b) := by
  unfold slideB
  have c := clampV_in (hold (b.x + b.vx)) (a := 0) (b := 13107200) (by omega)
  split
  · exact { h with x0 := c.1, x1 := c.2 }
  · exact { h with x0 := c.1, x1 := c.2, vx0 := by simp, vx1 := by simp }
theorem moveB_ok {b : Body} (h : BodyOk b) (n : Nat) : BodyOk (moveB b n) := slideB_ok (fallB_ok (walkB_ok h n) n)

section
variable {fr sc : Int} {f : F}
theorem Inv.setB (h : Inv fr sc f) {i : Nat} (hi : i < 2) {b : Body} (hb : BodyOk b) : Inv fr sc (setB f (2 + i * 7) b) := by
  have o : ∀ j, j < 2 + i * 7 ∨ 2 + i * 7 + 7 ≤ j → Gm.setB f (2 + i * 7) b j = f j := fun j hj => setB_out f _ b hj
  refine ⟨by rw [o 0 (by omega)]; exact h.frame, by rw [o 1 (by omega)]; exact h.seed0, by rw [o 1 (by omega)]; exact h.seed1, ?_, ?_, by rw [o 64 (by omega)]; exact h.p0, by rw [o 64 (by omega)]; exact h.p1, by rw [o 65 (by omega)]; exact h.q0, by rw [o 65 (by omega)]; exact h.q1⟩
  · intro j hj
    by_cases e : j = i
    · subst e; rw [setB_bod]; exact hb
    · rw [bod_congr (g := f) (fun k h1 h2 => o k (by omega))]; exact h.b j hj
  · intro k hk
    rw [sho_congr (g := f) (fun j h1 h2 => o j (by omega))]; exact h.s k hk
theorem Inv.setS (h : Inv fr sc f) {k : Nat} (hk : k < 8) {s : Shot} (hs : ShotOk s) : Inv fr sc (setS f (16 + k * 6) s) := by
  have o : ∀ j, j < 16 + k * 6 ∨ 16 + k * 6 + 6 ≤ j → Gm.setS f (16 + k * 6) s j = f j := fun j hj => setS_out f _ s hj
  refine ⟨by rw [o 0 (by omega)]; exact h.frame, by rw [o 1 (by omega)]; exact h.seed0, by rw [o 1 (by omega)]; exact h.seed1, ?_, ?_, by rw [o 64 (by omega)]; exact h.p0, by rw [o 64 (by omega)]; exact h.p1, by rw [o 65 (by omega)]; exact h.q0, by rw [o 65 (by omega)]; exact h.q1⟩
  · intro i hi
    rw [bod_congr (g := f) (fun k h1 h2 => o k (by omega))]; exact h.b i hi
  · intro j hj
    by_cases e : j = k
    · subst e; rw [setS_sho]; exact hs
    · rw [sho_congr (g := f) (fun j h1 h2 => o j (by omega))]; exact h.s j hj
/-- One number of a body. -/
theorem put_setB (f : F) (o : Nat) {j : Nat} (hj : j < 7) (v : Int) : ∃ b, put f (o + j) v = setB f o b ∧ b = bod (put f (o + j) v) o := by
  refine ⟨_, ?_, rfl⟩
  funext k
  unfold setB bod
  simp only [put]
  (repeat' split) <;> (first | rfl | omega | (subst_vars; rfl))
theorem Inv.put (h : Inv fr sc f) {i j : Nat} (hi : i < 2) (hj : j < 7) {v : Int} (hb : BodyOk (bod (put f (2 + i * 7 + j) v) (2 + i * 7))) : Inv fr sc (put f (2 + i * 7 + j) v) := by
  obtain ⟨b, e, rfl⟩ := put_setB f (2 + i * 7) hj v
  rw [e]
  exact h.setB hi hb
theorem shotOf_ok {b : Body} (h : BodyOk b) {i : Nat} (hi : i < 2) : ShotOk (shotOf b i) := by
  refine .inr ⟨rfl, h.x0, h.x1, (hold_bd _).1, (hold_bd _).2, ?_, ?_, by simp [shotOf], by simp [shotOf]⟩
  · rcases h.fc with e | e <;> simp [shotOf, e, clampV] <;> omega
  · show (i : Int) = 0 ∨ (i : Int) = 1
    omega
theorem bod_cool (f : F) (o : Nat) (v : Int) : bod (put f (o + 5) v) o = { bod f o with cool := v } := by simp [bod, put]
theorem bod_life (f : F) (o : Nat) (v : Int) : bod (put f (o + 4) v) o = { bod f o with life := v } := by simp [bod, put]
theorem Inv.fire (h : Inv fr sc f) {i : Nat} (hi : i < 2) (n : Nat) : Inv fr sc (fireF f i n) := by
  unfold fireF
  have hb := h.b i hi
  split
  · rename_i c
    refine h.put hi (by omega) ?_
    rw [bod_cool]
    have c1 := hb.c1
    simp only [bod] at c1
    exact { hb with c0 := by simp only []; omega, c1 := by simp only []; omega }
  · split
    · rename_i c
      refine (h.setS c.2 (shotOf_ok hb hi)).put hi (by omega) ?_
      rw [bod_cool]
      exact { (h.setS c.2 (shotOf_ok hb hi)).b i hi with c0 := by simp, c1 := by simp }
    · exact h
theorem Inv.body (h : Inv fr sc f) {i : Nat} (hi : i < 2) (n : Nat) : Inv fr sc (bodyF f i n) := (h.setB hi (moveB_ok (h.b i hi) n)).fire hi n
theorem Inv.mono (h : Inv fr sc f) {sc' : Int} (hs : sc ≤ sc') : Inv fr sc' f := { h with p1 := Int.le_trans h.p1 hs, q1 := Int.le_trans h.q1 hs }
theorem painV_in {s : Int} (h0 : 0 ≤ s) (n : Nat) : 1 ≤ painV s n ∧ painV s n ≤ 10 := by unfold painV; split <;> omega
theorem Inv.score (h : Inv fr sc f) {who : Nat} (hw : who < 2) : Inv fr (sc + 1) (Gm.put f (64 + (1 - who)) (f (64 + (1 - who)) + 1)) := by
  have e : who = 0 ∨ who = 1 := by omega
  have p0 := h.p0
  have p1 := h.p1
  have q0 := h.q0
  have q1 := h.q1
  have o : ∀ j, j < 64 → Gm.put f (64 + (1 - who)) (f (64 + (1 - who)) + 1) j = f j := fun j hj => put_ne f _ (by omega)
  refine ⟨by rw [o 0 (by omega)]; exact h.frame, by rw [o 1 (by omega)]; exact h.seed0, by rw [o 1 (by omega)]; exact h.seed1, ?_, ?_, ?_, ?_, ?_, ?_⟩
  · intro i hi
    rw [bod_congr (g := f) (fun k h1 h2 => o k (by omega))]; exact h.b i hi
  · intro k hk
    rw [sho_congr (g := f) (fun j h1 h2 => o j (by omega))]; exact h.s k hk
  all_goals (rcases e with rfl | rfl <;> simp [Gm.put] <;> omega)
theorem Inv.hurt (h : Inv fr sc f) {who : Nat} (hw : who < 2) (n : Nat) : Inv fr (sc + 1) (hurtF f who n) := by
  unfold hurtF
  have p := painV_in h.seed0 n
  have hb := h.b who hw
  split
  · refine (h.mono (by omega)).put hw (by omega) ?_
    rw [bod_life]
    have l1 := hb.l1
    simp only [bod] at l1
    exact { hb with l0 := by simp only []; omega, l1 := by simp only []; omega }
  · exact (h.score hw).setB hw (bornB_ok who)
theorem whoV_lt (s : Shot) : whoV s < 2 := by unfold whoV; split <;> omega
theorem Inv.fly (h : Inv fr sc f) {k : Nat} (hk : k < 8) (hon : f (16 + k * 6) ≠ 0) (n : Nat → Nat) : Inv fr (sc + 1) (flyF f k n) := by
  unfold flyF
  simp only []
  split
  · exact (h.setS hk (.inl rfl)).mono (by omega)
  · rename_i hg
    split
    · exact (h.setS hk (.inl rfl)).hurt (whoV_lt _) _
    · refine (h.setS hk (.inr ?_)).mono (by omega)
      have hs : ShotIn (sho f (16 + k * 6)) := (h.s k hk).resolve_left fun e => hon (congrArg Shot.on e)
      simp only [goneV, Bool.or_eq_true, decide_eq_true_eq, not_or] at hg
      have f1 := hs.f1
      exact { hs with x0 := by omega, x1 := by omega, f0 := by omega, f1 := by simp only [flown]; omega }
theorem Inv.flies (h : Inv fr sc f) (n : Nat → Nat) : ∀ k : Nat, k ≤ 8 → Inv fr (sc + k) (fliesF f n k)
  | 0, _ => by simpa [fliesF] using h
  | k + 1, hk => by
    have ih := Inv.flies h n k (by omega)
    unfold fliesF
    split
    · exact ih.mono (by omega)
    · rename_i hon
      have := ih.fly (by omega) hon n
      rw [show sc + ((k + 1 : Nat) : Int) = sc + (k : Int) + 1 by omega]
      exact this
theorem Inv.head (h : Inv fr sc f) : Inv (fr + 1) sc (headF f) := by
  have o : ∀ j, 2 ≤ j → headF f j = f j := fun j hj => by simp [headF, Gm.put]; omega
  refine ⟨by simp [headF, Gm.put, h.frame], by simp [headF, Gm.put, rollV]; omega, by simp [headF, Gm.put, rollV]; omega, ?_, ?_, by rw [o 64 (by omega)]; exact h.p0, by rw [o 64 (by omega)]; exact h.p1, by rw [o 65 (by omega)]; exact h.q0, by rw [o 65 (by omega)]; exact h.q1⟩
  · intro i hi
    rw [bod_congr (g := f) (fun k h1 h2 => o k (by omega))]; exact h.b i hi
  · intro k hk
    rw [sho_congr (g := f) (fun j h1 h2 => o j (by omega))]; exact h.s k hk
theorem Inv.step (h : Inv fr sc f) (n : Nat → Nat) : Inv (fr + 1) (sc + 8) (stepF f n) := ((h.head.body (by omega) _).body (by omega) _).flies n 8 (by omega)
theorem Inv.new (seed : Int) (h0 : 0 ≤ seed) (h1 : seed < 4294967296) : Inv 0 0 (newF seed) := by
  have z : Inv 0 0 (newF seed) := by
    refine ⟨rfl, h0, h1, ?_, ?_, (show (0 : Int) ≤ 0 by decide), (show (0 : Int) ≤ 0 by decide), (show (0 : Int) ≤ 0 by decide), (show (0 : Int) ≤ 0 by decide)⟩
    · intro i hi
      have e : i = 0 ∨ i = 1 := by omega
      rcases e with rfl | rfl
      · exact bornB_ok 0
      · exact bornB_ok 1
    · intro k hk
      refine .inl ?_
      unfold newF
      rw [sho_congr (g := fun _ => 0) (fun j h1 h2 => by rw [setB_out _ _ _ (by omega), setB_out _ _ _ (by omega), put_ne _ _ (by omega)])]
      rfl
  exact z

/-! ### The score doesn't fall -/
def Up (f g : F) : Prop := f 64 ≤ g 64 ∧ f 65 ≤ g 65
theorem Up.of {f g : F} (h : g 64 = f 64) (h' : g 65 = f 65) : Up f g := ⟨by omega, by omega⟩
theorem Up.trans {f g k : F} (h : Up f g) (h' : Up g k) : Up f k := ⟨Int.le_trans h.1 h'.1, Int.le_trans h.2 h'.2⟩
theorem up_setB (f : F) {i : Nat} (hi : i < 2) (b : Body) : Up f (Gm.setB f (2 + i * 7) b) := .of (setB_out _ _ _ (by omega)) (setB_out _ _ _ (by omega))
theorem up_setS (f : F) {k : Nat} (hk : k < 8) (s : Shot) : Up f (Gm.setS f (16 + k * 6) s) := .of (setS_out _ _ _ (by omega)) (setS_out _ _ _ (by omega))
theorem up_put (f : F) {k : Nat} (hk : k < 64) (v : Int) : Up f (Gm.put f k v) := .of (put_ne _ _ (by omega)) (put_ne _ _ (by omega))
theorem up_fire (f : F) {i : Nat} (hi : i < 2) (n : Nat) : Up f (fireF f i n) := by
  unfold fireF
  split
  · exact up_put _ (by omega) _
  · split
    · rename_i c
      exact (up_setS f c.2 _).trans (up_put _ (by omega) _)
    · exact .of rfl rfl
theorem up_hurt (f : F) {who : Nat} (hw : who < 2) (n : Nat) : Up f (hurtF f who n) := by
  unfold hurtF
  split
  · exact up_put _ (by omega) _
  · refine Up.trans ?_ (up_setB _ hw _)
    have e : who = 0 ∨ who = 1 := by omega
    rcases e with rfl | rfl <;> simp [Up, Gm.put] <;> omega
theorem up_fly (f : F) {k : Nat} (hk : k < 8) (n : Nat → Nat) : Up f (flyF f k n) := by
  unfold flyF
  simp only []
  split
  · exact up_setS f hk _
  · split
    · exact (up_setS f hk _).trans (up_hurt _ (whoV_lt _) _)
    · exact up_setS f hk _
theorem up_flies (f : F) (n : Nat → Nat) : ∀ k : Nat, k ≤ 8 → Up f (fliesF f n k)
  | 0, _ => .of rfl rfl
  | k + 1, hk => by
    have ih := up_flies f n k (by omega)
    unfold fliesF
    split
    · exact ih
    · exact ih.trans (up_fly _ (by omega) _)
theorem up_step (f : F) (n : Nat → Nat) : Up f (stepF f n) :=
  ((((Up.of (by simp [headF, Gm.put]) (by simp [headF, Gm.put])).trans (up_setB _ (by omega) _)).trans (up_fire _ (by omega) _)).trans ((up_setB _ (by omega) _).trans (up_fire _ (by omega) _))).trans (up_flies _ n 8 (by omega))
end
end Go.Proofs.YtckkpgopddnkiaaGreat.Gm
namespace Go.Proofs.YtckkpgopddnkiaaGreat.Gm
open Go.RowKit Go.Proofs.YtckkpgopddnkiaaGreat.Num
set_option linter.all false

/-- Is a number a yes? -/
def onB (z : Int) : Bool := decide (z ≠ 0)
theorem onB_yes {z : Int} (h : z ≠ 0) : onB z = true := by simp [onB, h]
theorem onB_no {z : Int} (h : z = 0) : onB z = false := by simp [onB, h]
/-- A state's cell. -/
def cv (j : Nat) (z : Int) : Value := if j = 1 then .int .u32 z else if 16 ≤ j ∧ j < 64 ∧ (j - 16) % 6 = 0 then .bool (onB z) else .int .i64 z
def stA (f : F) : Array Value := Array.ofFn (n := 66) fun j => cv j.1 (f j.1)
def stV (f : F) : Value := .agg (stA f)
theorem stA_size (f : F) : (stA f).size = 66 := by simp [stA]
theorem stA_get (f : F) {j : Nat} (h : j < 66) : (stA f)[j]? = some (cv j (f j)) := by simp [stA, h]
theorem cv_one (j : Nat) (z : Int) : (cv j z).oneCell' = true := by unfold cv; (repeat' split) <;> rfl
theorem stA_one (f : F) : (stA f).all (·.oneCell') = true := by
  rw [Array.all_eq_true]
  intro i h
  simp only [stA, Array.getElem_ofFn]
  exact cv_one _ _
theorem stA_put (f : F) {j : Nat} (h : j < 66) (z : Int) : (stA f).setIfInBounds j (cv j z) = stA (put f j z) := by
  apply Array.ext_getElem?
  intro i
  rw [Array.getElem?_setIfInBounds]
  by_cases hi : i < 66
  · rw [stA_get _ hi, stA_get _ hi]
    by_cases e : j = i
    · subst e; simp [stA_size, hi, put]
    · simp [e, put, show ¬ i = j from fun x => e x.symm]
  · have h1 : (stA f)[i]? = none := Array.getElem?_eq_none (by rw [stA_size]; omega)
    have h2 : (stA (put f j z))[i]? = none := Array.getElem?_eq_none (by rw [stA_size]; omega)
    rw [h1, h2]
    have e : j ≠ i := by omega
    simp [e]
theorem cv_int {j : Nat} (z : Int) (h1 : j ≠ 1) (h2 : ¬ (16 ≤ j ∧ j < 64 ∧ (j - 16) % 6 = 0)) : cv j z = .int .i64 z := by unfold cv; rw [if_neg h1, if_neg h2]
theorem cv_seed (z : Int) : cv 1 z = .int .u32 z := rfl
theorem cv_on {k : Nat} (hk : k < 8) (z : Int) : cv (16 + k * 6) z = .bool (onB z) := by unfold cv; rw [if_neg (by omega), if_pos (by omega)]
theorem stA_congr {f g : F} (h : ∀ j, j < 66 → f j = g j) : stA f = stA g := by
  apply Array.ext_getElem?
  intro i
  by_cases hi : i < 66
  · rw [stA_get _ hi, stA_get _ hi, h i hi]
  · rw [Array.getElem?_eq_none (by rw [stA_size]; omega), Array.getElem?_eq_none (by rw [stA_size]; omega)]

/-- A block that holds a state (the block's type is its own). -/
def SB (w : World) (g : Nat) (t : TypeId) (f : F) : Prop := Blk w g t (stA f)
section
variable {S : Nat → Prop} {w w' : World} {g : Nat} {t : TypeId} {f : F}
theorem SB.lt (h : SB w g t f) : g < w.heap.size := Blk.lt h
theorem SB.at_ (h : SB w g t f) {j : Nat} (hj : j < 66) : w.cell? ⟨g, j, none⟩ = some (cv j (f j)) := (Blk.cell h j).trans (stA_get f hj)
theorem SB.fr (h : SB w g t f) (j : Nat) : w.frozen? ⟨g, j, none⟩ = false := Blk.frozen h j
theorem SB.int (h : SB w g t f) {j : Nat} (hj : j < 66) (h1 : j ≠ 1) (h2 : ¬ (16 ≤ j ∧ j < 64 ∧ (j - 16) % 6 = 0)) : w.cell? ⟨g, j, none⟩ = some (.int .i64 (f j)) := by rw [h.at_ hj, cv_int _ h1 h2]
theorem SB.seed (h : SB w g t f) : w.cell? ⟨g, 1, none⟩ = some (.int .u32 (f 1)) := h.at_ (by omega)
theorem SB.on (h : SB w g t f) {k : Nat} (hk : k < 8) : w.cell? ⟨g, 16 + k * 6, none⟩ = some (.bool (onB (f (16 + k * 6)))) := by rw [h.at_ (by omega), cv_on hk]
theorem SB.body (h : SB w g t f) {i j : Nat} (hi : i < 2) (hj : j < 7) : w.cell? ⟨g, 2 + i * 7 + j, none⟩ = some (.int .i64 (f (2 + i * 7 + j))) := h.int (by omega) (by omega) (by omega)
theorem SB.shot (h : SB w g t f) {k j : Nat} (hk : k < 8) (hj : j < 6) (h0 : 0 < j) : w.cell? ⟨g, 16 + k * 6 + j, none⟩ = some (.int .i64 (f (16 + k * 6 + j))) := h.int (by omega) (by omega) (by omega)
theorem SB.score (h : SB w g t f) {i : Nat} (hi : i < 2) : w.cell? ⟨g, 64 + i, none⟩ = some (.int .i64 (f (64 + i))) := h.int (by omega) (by omega) (by omega)
theorem SB.set_ (h : SB w g t f) {j : Nat} (hj : j < 66) (z : Int) : SB (w.setCell ⟨g, j, none⟩ (cv j z)) g t (put f j z) := by
  unfold SB
  rw [← stA_put f hj z]
  exact Blk.set_ h j _
theorem SB.setInt (h : SB w g t f) {j : Nat} (hj : j < 66) (h1 : j ≠ 1) (h2 : ¬ (16 ≤ j ∧ j < 64 ∧ (j - 16) % 6 = 0)) (z : Int) : SB (w.setCell ⟨g, j, none⟩ (.int .i64 z)) g t (put f j z) := by
  have := h.set_ hj z
  rwa [cv_int _ h1 h2] at this
theorem SB.drew (h : SB w g t f) : SB w.drew g t f := h
theorem SB.drewN (h : SB w g t f) (n : Nat) : SB (w.drewN n) g t f := h
theorem SB.alloc (h : SB w g t f) (o : Obj) : SB (w.alloc o) g t f := Blk.alloc h o
theorem SB.far (h : SB w g t f) {p : Addr} (hp : g ≠ p.block) (u : Value) : SB (w.setCell p u) g t f := Blk.far h hp u
theorem SB.below {B : Nat} (h : SB w g t f) (hb : Below B w w') (hB : g < B) : SB w' g t f := Blk.below h hb hB
theorem SB.touch (h : SB w g t f) (hb : Touch S w w') (hg : ¬ S g) : SB w' g t f := Blk.touch h hb hg
theorem SB.congr {f' : F} (h : SB w g t f) (hf : ∀ j, j < 66 → f j = f' j) : SB w g t f' := by unfold SB; rw [← stA_congr hf]; exact h
theorem SB.new (w : World) (t : TypeId) (f : F) : SB (w.alloc (.cells (stA f) t)) w.heap.size t f := Blk.new _ _ _
end

/-! ### A body, a shot as values -/
def bodL (b : Body) : List Value := [.int .i64 b.x, .int .i64 b.y, .int .i64 b.vx, .int .i64 b.vy, .int .i64 b.life, .int .i64 b.cool, .int .i64 b.facing]
def bodV (b : Body) : Value := .agg (bodL b).toArray
def shoL (s : Shot) : List Value := [.bool (onB s.on), .int .i64 s.x, .int .i64 s.y, .int .i64 s.vx, .int .i64 s.owner, .int .i64 s.frames]
def shoV (s : Shot) : Value := .agg (shoL s).toArray
section
variable {S : Nat → Prop} {w w' : World} {g : Nat} {t : TypeId} {f : F}
theorem SB.bodR (h : SB w g t f) {i : Nat} (hi : i < 2) : w.rangeAt g (2 + i * 7) (bodL (bod f (2 + i * 7))) := by
  intro j v hv
  match j, hv with
  | 0, hv => cases hv; exact h.body hi (j := 0) (by omega)
  | 1, hv => cases hv; exact h.body hi (j := 1) (by omega)
  | 2, hv => cases hv; exact h.body hi (j := 2) (by omega)
  | 3, hv => cases hv; exact h.body hi (j := 3) (by omega)
  | 4, hv => cases hv; exact h.body hi (j := 4) (by omega)
  | 5, hv => cases hv; exact h.body hi (j := 5) (by omega)
  | 6, hv => cases hv; exact h.body hi (j := 6) (by omega)
  | k + 7, hv => simp [bodL] at hv
theorem SB.shoR (h : SB w g t f) {k : Nat} (hk : k < 8) : w.rangeAt g (16 + k * 6) (shoL (sho f (16 + k * 6))) := by
  intro j v hv
  match j, hv with
  | 0, hv => cases hv; exact h.on hk
  | 1, hv => cases hv; exact h.shot hk (j := 1) (by omega) (by omega)
  | 2, hv => cases hv; exact h.shot hk (j := 2) (by omega) (by omega)
  | 3, hv => cases hv; exact h.shot hk (j := 3) (by omega) (by omega)
  | 4, hv => cases hv; exact h.shot hk (j := 4) (by omega) (by omega)
  | 5, hv => cases hv; exact h.shot hk (j := 5) (by omega) (by omega)
  | k + 6, hv => simp [shoL] at hv
theorem SB.there (h : SB w g t f) {o n : Nat} (ho : o + n ≤ 66) : w.there g o n := fun j hj => ⟨by rw [h.at_ (j := o + j) (by omega)]; rfl, h.fr _⟩
theorem SB.setBody (h : SB w g t f) {i : Nat} (hi : i < 2) (b : Body) : SB (w.setCells g (2 + i * 7) (bodL b)) g t (setB f (2 + i * 7) b) := by
  unfold setB
  exact ((((((h.setInt (j := 2 + i * 7) (by omega) (by omega) (by omega) b.x).setInt (j := 2 + i * 7 + 1) (by omega) (by omega) (by omega) b.y).setInt (j := 2 + i * 7 + 2) (by omega) (by omega) (by omega) b.vx).setInt (j := 2 + i * 7 + 3) (by omega) (by omega) (by omega) b.vy).setInt (j := 2 + i * 7 + 4) (by omega) (by omega) (by omega) b.life).setInt (j := 2 + i * 7 + 5) (by omega) (by omega) (by omega) b.cool).setInt (j := 2 + i * 7 + 6) (by omega) (by omega) (by omega) b.facing
theorem SB.setOn (h : SB w g t f) {k : Nat} (hk : k < 8) (z : Int) : SB (w.setCell ⟨g, 16 + k * 6, none⟩ (.bool (onB z))) g t (put f (16 + k * 6) z) := by
  have := h.set_ (j := 16 + k * 6) (by omega) z
  rwa [cv_on hk] at this
theorem SB.setShot (h : SB w g t f) {k : Nat} (hk : k < 8) (s : Shot) : SB (w.setCells g (16 + k * 6) (shoL s)) g t (setS f (16 + k * 6) s) := by
  unfold setS
  exact (((((h.setOn hk s.on).setInt (j := 16 + k * 6 + 1) (by omega) (by omega) (by omega) s.x).setInt (j := 16 + k * 6 + 2) (by omega) (by omega) (by omega) s.y).setInt (j := 16 + k * 6 + 3) (by omega) (by omega) (by omega) s.vx).setInt (j := 16 + k * 6 + 4) (by omega) (by omega) (by omega) s.owner).setInt (j := 16 + k * 6 + 5) (by omega) (by omega) (by omega) s.frames
theorem touch_cells (h : Touch S w w') (g : Nat) (hg : S g ∨ w.heap.size ≤ g) : ∀ (vs : List Value) (o : Nat), Touch S w (w'.setCells g o vs) := by
  intro vs
  induction vs generalizing w' with
  | nil => intro o; exact h
  | cons v r ih => intro o; exact ih (h.setCell (p := ⟨g, o, none⟩) hg v) (o + 1)
end
end Go.Proofs.YtckkpgopddnkiaaGreat.Gm
namespace Go.Proofs.YtckkpgopddnkiaaGreat.Gm
open Go.RowKit Go.Proofs.YtckkpgopddnkiaaGreat.Num
set_option linter.all false

theorem and_two (n k : Nat) : n &&& 2 ^ k = n / 2 ^ k % 2 * 2 ^ k := by
  apply Nat.eq_of_testBit_eq
  intro i
  rw [Nat.testBit_and, Nat.testBit_two_pow]
  rcases Nat.mod_two_eq_zero_or_one (n / 2 ^ k) with h | h
  · rw [h, Nat.zero_mul, Nat.zero_testBit]
    by_cases e : k = i
    · subst e
      simp [Nat.testBit_eq_decide_div_mod_eq, h]
    · simp [e]
  · rw [h, Nat.one_mul, Nat.testBit_two_pow]
    by_cases e : k = i
    · subst e
      simp [Nat.testBit_eq_decide_div_mod_eq, h]
    · simp [e]
theorem andB {n : Nat} (h : n < 65536) (k : Nat) (hk : k < 16) : bits .and .u16 (n : Int) ((2 ^ k : Nat) : Int) = ((n / 2 ^ k % 2 * 2 ^ k : Nat) : Int) := by
  have hb : (2 : Nat) ^ k < 65536 := Nat.pow_lt_pow_right (a := 2) (n := 16) (by decide) hk
  have h1 : (BitVec.ofInt 16 (n : Int)).toNat = n := by rw [BitVec.ofInt_natCast, BitVec.toNat_ofNat]; exact Nat.mod_eq_of_lt (by omega)
  have h2 : (BitVec.ofInt 16 ((2 ^ k : Nat) : Int)).toNat = 2 ^ k := by rw [BitVec.ofInt_natCast, BitVec.toNat_ofNat]; exact Nat.mod_eq_of_lt (by omega)
  show IntKind.u16.wrap ((BitVec.ofInt 16 (n : Int) &&& BitVec.ofInt 16 ((2 ^ k : Nat) : Int)).toNat : Int) = _
  rw [BitVec.toNat_and, h1, h2, and_two]
  have h3 : n / 2 ^ k % 2 * 2 ^ k ≤ 1 * 2 ^ k := Nat.mul_le_mul_right _ (by omega)
  exact IntWalk.u16_in _ (by omega)
theorem and1 {n : Nat} (h : n < 65536) : bits .and .u16 (n : Int) 1 = ((n % 2 : Nat) : Int) := by simpa using andB h 0 (by decide)
theorem and2 {n : Nat} (h : n < 65536) : bits .and .u16 (n : Int) 2 = ((n / 2 % 2 * 2 : Nat) : Int) := andB h 1 (by decide)
theorem and4 {n : Nat} (h : n < 65536) : bits .and .u16 (n : Int) 4 = ((n / 4 % 2 * 4 : Nat) : Int) := andB h 2 (by decide)
theorem and16 {n : Nat} (h : n < 65536) : bits .and .u16 (n : Int) 16 = ((n / 16 % 2 * 16 : Nat) : Int) := andB h 4 (by decide)
theorem and32 {n : Nat} (h : n < 65536) : bits .and .u16 (n : Int) 32 = ((n / 32 % 2 * 32 : Nat) : Int) := andB h 5 (by decide)

set_option maxHeartbeats 1000000 in
theorem has_any (w : World) (n b : Nat) (hn : n < 65536) (hb : 0 < b) (hb2 : b ≤ 64) :
    Calls Tryz.prog 87 #[.int .u16 n, .int .i64 b] w fun e w' => e = .returned (.bool (decide (n / b % 2 = 1))) ∧ w = w' := by
  have hq : (n : Int).tdiv (b : Int) = ((n / b : Nat) : Int) := by rw [Int.tdiv_eq_ediv_of_nonneg (by omega)]; rfl
  have hle : n / b ≤ n := Nat.div_le_self _ _
  have hw1 : IntKind.i64.wrap (n : Int) = (n : Int) := IntWalk.i64_in _ (by omega)
  have HD := Lib.hid (show decide (n / b % 2 = 1) = ((((n / b : Nat) : Int) % 2) == 1) by rw [Bool.eq_iff_iff]; simp; omega)
  have hb0 : ¬ (b : Int) = 0 := by omega
  have hq' : (n : Int) / (b : Int) = ((n / b : Nat) : Int) := rfl
  generalize n / b = q at *
  have hw2 : IntKind.i64.wrap (q : Int) = (q : Int) := IntWalk.i64_in _ (by omega)
  go_enter Tryz.func87, Tryz.ntmps87
  go_wp2
  go_ret
  exact ⟨ret_bool (by rw [HD.out]), rfl⟩
theorem roll_any (w : World) (s : Int) (h0 : 0 ≤ s) (h1 : s < 4294967296) :
    Calls Tryz.prog 81 #[.int .u32 s] w fun e w' => e = .returned (.int .u32 (rollV s)) ∧ w = w' := by
  have e := Lib.hid (show IntKind.u32.wrap (IntKind.u32.wrap (s * 1664525) + 1013904223) = rollV s by simp [IntKind.wrap, IntKind.bits, IntKind.signed, rollV])
  go_enter Tryz.func81, Tryz.ntmps81
  go_wp2
  go_ret
  exact ⟨ret_int (by first | done | exact e.out | (rw [← e.out]; rfl) | (simp [IntKind.wrap, IntKind.bits, IntKind.signed, rollV]; done)), rfl⟩
theorem abs_any (w : World) (z : Int) (h0 : -9223372036854775808 ≤ z) (h1 : z ≤ 9223372036854775807) :
    Calls Tryz.prog 114 #[.int .i64 z] w fun e w' => e = .returned (.int .i64 (absV z)) ∧ w = w' := by
  by_cases c : z = -9223372036854775808
  · subst c
    go_enter Tryz.func114, Tryz.ntmps114
    go_wp2
    go_ret
    exact ⟨rfl, rfl⟩
  · have e : absV z = if z < 0 then -z else z := by unfold absV; rw [if_neg c]
    have E := Lib.hid e
    clear e
    by_cases c2 : z < 0
    · have hw : IntKind.i64.wrap (-z) = -z := IntWalk.i64_in _ (by omega)
      go_enter Tryz.func114, Tryz.ntmps114
      go_wp2
      go_ret
      exact ⟨ret_int (by rw [E.out, if_pos c2]), rfl⟩
    · go_enter Tryz.func114, Tryz.ntmps114
      go_wp2
      go_ret
      exact ⟨ret_int (by rw [E.out]; omega), rfl⟩
set_option maxHeartbeats 1000000 in
theorem rclamp_any (w : World) (z lo hi : Int) (h : lo ≤ hi) :
    Calls Tryz.prog 89 #[.int .i64 z, .int .i64 lo, .int .i64 hi] w fun e w' => e = .returned (.int .i64 (clampV z lo hi)) ∧ w = w' := by
  have h' : decide (hi < lo) = false := by simpa using h
  by_cases c : z < lo
  · have E := Lib.hid (show clampV z lo hi = lo by unfold clampV; omega)
    have c' : decide (z < lo) = true := by simpa using c
    go_enter Tryz.func89, Tryz.ntmps89
    go_wp2
    go_ret
    exact ⟨ret_int E.out.symm, rfl⟩
  · have c' : decide (z < lo) = false := by simpa using c
    by_cases c2 : hi < z
    · have E := Lib.hid (show clampV z lo hi = hi by unfold clampV; omega)
      go_enter Tryz.func89, Tryz.ntmps89
      go_wp2
      go_ret
      exact ⟨ret_int E.out.symm, rfl⟩
    · have E := Lib.hid (show clampV z lo hi = z by unfold clampV; omega)
      go_enter Tryz.func89, Tryz.ntmps89
      go_wp2
      go_ret
      exact ⟨ret_int E.out.symm, rfl⟩
set_option maxHeartbeats 1000000 in
theorem near_any (w : World) (a b r : Int) (a1 : -9223372036854775808 ≤ a) (a2 : a ≤ 9223372036854775807) (b1 : -9223372036854775808 ≤ b) (b2 : b ≤ 9223372036854775807) (hr : 0 ≤ r) :
    Calls Tryz.prog 109 #[.int .i64 a, .int .i64 b, .int .i64 r] w fun e w' => e = .returned (.bool (nearV a b r)) ∧ w = w' := by
  have p1 := Lib.hid (fun w => wsub_any w a b a1 a2 b1 b2)
  have hh := hold_bd (a - b)
  have HN := Lib.hid (show nearV a b r = decide (absV (hold (a - b)) ≤ r) from rfl)
  generalize hold (a - b) = d at *
  have p2 := Lib.hid (fun w => abs_any w d hh.1 hh.2)
  generalize absV d = m at *
  have hr' : decide (0 ≤ r) = true := by simpa using hr
  go_enter Tryz.func109, Tryz.ntmps109
  go_wp2_with fail
  refine (p1.out _).mono ?_
  rintro e w' ⟨rfl, rfl⟩
  go_wp2_with fail
  refine (p2.out _).mono ?_
  rintro e w' ⟨rfl, rfl⟩
  go_wp2_with fail
  go_ret
  exact ⟨ret_bool HN.out.symm, rfl⟩
theorem absV_held (z : Int) (h0 : -9223372036854775808 ≤ z) (h1 : z ≤ 9223372036854775807) : heldV false z.natAbs = absV z := by
  unfold heldV absV
  split <;> (try split) <;> (try split) <;> simp_all <;> omega
set_option maxRecDepth 100000 in
set_option maxHeartbeats 1000000 in
theorem rabs_any (w : World) (z : Int) (h0 : -9223372036854775808 ≤ z) (h1 : z ≤ 9223372036854775807) :
    Calls Tryz.prog 107 #[.int .i64 z] w fun e w' => e = .returned (.int .i64 (absV z)) ∧ Below w.heap.size w w' := by
  have p1 := Lib.hid (of_any w z h0 h1)
  have hz := Num.abs_lt h0 h1
  have HA := Lib.hid (absV_held z h0 h1)
  generalize decide (z < 0) = s at *
  generalize z.natAbs = m at *
  have hd5 : m < 65536 ^ 5 := by omega
  have p2 := Lib.hid (fun w => held_any w false m hd5)
  clear hd5
  go_enter Tryz.func107, Tryz.ntmps107
  go_wp2_with fail
  refine p1.out.mono ?_
  rintro e w1 ⟨rfl, hb1⟩
  unfold wv wcs
  go_wp2_with fail
  refine (p2.out _).mono ?_
  rintro e w2 ⟨rfl, hb2⟩
  rw [HA.out]
  go_wp2_with fail
  go_ret
  have hs1 := hb1.size
  exact ⟨rfl, (hb1.alloc hb1.size _).trans (hb2.mono (by simp; omega))⟩
set_option maxHeartbeats 1000000 in
theorem rnear_any (w : World) (a b r : Int) (a1 : -9223372036854775808 ≤ a) (a2 : a ≤ 9223372036854775807) (b1 : -9223372036854775808 ≤ b) (b2 : b ≤ 9223372036854775807) :
    Calls Tryz.prog 92 #[.int .i64 a, .int .i64 b, .int .i64 r] w fun e w' => e = .returned (.bool (nearV a b r)) ∧ Below w.heap.size w w' := by
  have p1 := Lib.hid (sub_any w a b a1 a2 b1 b2)
  have hh := hold_bd (a - b)
  have HN := Lib.hid (show nearV a b r = decide (absV (hold (a - b)) ≤ r) from rfl)
  generalize hold (a - b) = d at *
  have p2 := Lib.hid (fun w => rabs_any w d hh.1 hh.2)
  generalize absV d = m at *
  go_enter Tryz.func92, Tryz.ntmps92
  go_wp2_with fail
  refine p1.out.mono ?_
  rintro e w1 ⟨rfl, hb1⟩
  go_wp2_with fail
  refine (p2.out _).mono ?_
  rintro e w2 ⟨rfl, hb2⟩
  go_wp2_with fail
  go_ret
  exact ⟨ret_bool HN.out.symm, hb1.trans (hb2.mono hb1.size)⟩
end Go.Proofs.YtckkpgopddnkiaaGreat.Gm
namespace Go.Proofs.YtckkpgopddnkiaaGreat.Gm
open Go.RowKit Go.Proofs.YtckkpgopddnkiaaGreat.Num
set_option linter.all false

theorem low32 {m : Nat} (h : m < 4294967296) : bits .and .u64 (m : Int) 4294967295 = (m : Int) := by
  have := bits_and_u64_nat m 4294967295 (by omega) (by omega)
  rw [show ((4294967295 : Nat) : Int) = 4294967295 from rfl] at this
  rw [this]
  have e : m &&& 4294967295 = m := by
    have := Nat.and_two_pow_sub_one_eq_mod m 32
    rw [show (2 : Nat) ^ 32 - 1 = 4294967295 from rfl] at this
    rw [this]
    omega
  rw [e]
set_option maxHeartbeats 1000000 in
theorem abs64_any (w : World) (z : Int) (h0 : -9223372036854775808 ≤ z) (h1 : z ≤ 9223372036854775807) :
    Calls Tryz.prog 113 #[.int .i64 z] w fun e w' => e = .returned (.int .u64 (z.natAbs : Nat)) ∧ w = w' := by
  by_cases c : z < 0
  · obtain ⟨m, rfl⟩ : ∃ m : Nat, z = -(m : Int) := ⟨z.natAbs, by omega⟩
    have e := Lib.hid (neg_neg64 m (by omega) (by omega))
    have en : (-(m : Int)).natAbs = m := by omega
    rw [en]
    have c' : decide (-(m : Int) < 0) = true := by simpa using c
    have hm0 : 0 < m := by omega
    clear c h0 h1 en
    go_enter Tryz.func113, Tryz.ntmps113
    go_wp2
    go_ret
    exact ⟨ret_int e.out, rfl⟩
  · obtain ⟨m, rfl⟩ : ∃ m : Nat, z = (m : Int) := ⟨z.natAbs, by omega⟩
    have e : IntKind.u64.wrap (m : Int) = (m : Int) := IntWalk.u64_in _ (by omega)
    rw [Int.natAbs_natCast]
    go_enter Tryz.func113, Tryz.ntmps113
    go_wp2
    go_ret
    exact ⟨rfl, rfl⟩
set_option maxHeartbeats 2000000 in
theorem wide_any (w : World) (v : Int) (h0 : -196608 ≤ v) (h1 : v ≤ 196608) :
    Calls Tryz.prog 108 #[.int .i64 v, .int .i64 57344] w fun e w' => e = .returned (.tuple #[.int .i64 (if v < 0 then -1 else 0), .int .u64 (if v < 0 then v * 57344 + 18446744073709551616 else v * 57344)]) ∧ w = w' := by
  have pA := Lib.hid (fun w => abs64_any w v (by omega) (by omega))
  have pB := Lib.hid (fun w => abs64_any w 57344 (by omega) (by omega))
  have b1 : bits .and .u64 57344 4294967295 = 57344 := by decide +kernel
  have b0 : bits .and .u64 0 4294967295 = 0 := by decide +kernel
  by_cases c : v < 0
  · obtain ⟨m, rfl⟩ : ∃ m : Nat, v = -(m : Int) := ⟨v.natAbs, by omega⟩
    rw [show (-(m : Int)).natAbs = m by omega] at pA
    have q1 : (m : Int) / 4294967296 = 0 := by omega
    have q2 := low32 (m := m) (by omega)
    have q3 : IntKind.u64.wrap ((m : Int) * 57344) = (m : Int) * 57344 := IntWalk.u64_in _ (by omega)
    obtain ⟨t, ht⟩ : ∃ t : Nat, (t : Int) = (m : Int) * 57344 / 4294967296 := ⟨m * 57344 / 4294967296, by omega⟩
    have t1 : t < 10 := by omega
    have q4 : (m : Int) * 57344 / 4294967296 = (t : Int) := ht.symm
    have q5 : (t : Int) / 4294967296 = 0 := by omega
    have q6 := low32 (m := t) (by omega)
    have q7 : IntKind.u64.wrap (t : Int) = (t : Int) := IntWalk.u64_in _ (by omega)
    have q8 : IntKind.u64.wrap (-(m : Int)) = 18446744073709551616 - (m : Int) := by simp [IntKind.wrap, IntKind.bits, IntKind.signed]; omega
    have q9 : IntKind.u64.wrap ((18446744073709551616 - (m : Int)) * 57344) = 18446744073709551616 - (m : Int) * 57344 := by simp [IntKind.wrap, IntKind.bits, IntKind.signed]; omega
    have E1 := Lib.hid (show -(m : Int) * 57344 + 18446744073709551616 = 18446744073709551616 - (m : Int) * 57344 by omega)
    have q10 : ((18446744073709551616 - (m : Int) * 57344) == 0) = false := by simp; omega
    have c' : decide (-(m : Int) < 0) = true := by simpa using c
    have hm0 : 0 < m := by omega
    have x1 : bits BinOp.xor IntKind.u64 IntKind.u64.max 0 = 18446744073709551615 := by decide +kernel
    have x2 : wrap64 18446744073709551615 = -1 := by decide +kernel
    rw [if_pos c, if_pos c, E1.out]
    clear c h0 h1 ht E1
    go_enter Tryz.func108, Tryz.ntmps108
    go_wp2_with fail
    refine (pA.out _).mono ?_
    rintro e w' ⟨rfl, rfl⟩
    go_wp2_with fail
    refine (pB.out _).mono ?_
    rintro e w' ⟨rfl, rfl⟩
    go_wp2_with fail
    go_ret2
    exact ⟨rfl, rfl⟩
  · obtain ⟨m, rfl⟩ : ∃ m : Nat, v = (m : Int) := ⟨v.natAbs, by omega⟩
    rw [Int.natAbs_natCast] at pA
    have q1 : (m : Int) / 4294967296 = 0 := by omega
    have q2 := low32 (m := m) (by omega)
    have q3 : IntKind.u64.wrap ((m : Int) * 57344) = (m : Int) * 57344 := IntWalk.u64_in _ (by omega)
    obtain ⟨t, ht⟩ : ∃ t : Nat, (t : Int) = (m : Int) * 57344 / 4294967296 := ⟨m * 57344 / 4294967296, by omega⟩
    have t1 : t < 10 := by omega
    have q4 : (m : Int) * 57344 / 4294967296 = (t : Int) := ht.symm
    have q5 : (t : Int) / 4294967296 = 0 := by omega
    have q6 := low32 (m := t) (by omega)
    have q7 : IntKind.u64.wrap (t : Int) = (t : Int) := IntWalk.u64_in _ (by omega)
    have q8 : IntKind.u64.wrap (m : Int) = (m : Int) := IntWalk.u64_in _ (by omega)
    have c' : decide ((m : Int) < 0) = false := by simpa using c
    rw [if_neg c, if_neg c]
    clear c h0 h1 ht
    go_enter Tryz.func108, Tryz.ntmps108
    go_wp2_with fail
    refine (pA.out _).mono ?_
    rintro e w' ⟨rfl, rfl⟩
    go_wp2_with fail
    refine (pB.out _).mono ?_
    rintro e w' ⟨rfl, rfl⟩
    go_wp2_with fail
    go_ret2
    exact ⟨rfl, rfl⟩
theorem or_top {t : Nat} (h : t < 281474976710656) : bits .or .i64 (-281474976710656) (t : Int) = (t : Int) - 281474976710656 := by
  have h1 : (BitVec.ofInt 64 (t : Int)).toNat = t := by rw [BitVec.ofInt_natCast, BitVec.toNat_ofNat]; exact Nat.mod_eq_of_lt (by omega)
  have h2 : (BitVec.ofInt 64 (-281474976710656)).toNat = 65535 * 281474976710656 := by decide +kernel
  show IntKind.i64.wrap ((BitVec.ofInt 64 (-281474976710656) ||| BitVec.ofInt 64 (t : Int)).toNat : Int) = _
  rw [BitVec.toNat_or, h1, h2]
  have e : 65535 * 281474976710656 ||| t = 65535 * 281474976710656 + t := by
    have := Nat.two_pow_add_eq_or_of_lt (i := 48) (b := t) (by omega) 65535
    rw [show 65535 * 281474976710656 = 2 ^ 48 * 65535 by decide]
    exact this.symm
  rw [e]
  simp [IntKind.wrap, IntKind.bits, IntKind.signed]
  omega
theorem or_zero {t : Nat} (h : t < 281474976710656) : bits .or .i64 0 (t : Int) = (t : Int) := by
  have h1 : (BitVec.ofInt 64 (t : Int)).toNat = t := by rw [BitVec.ofInt_natCast, BitVec.toNat_ofNat]; exact Nat.mod_eq_of_lt (by omega)
  have h2 : (BitVec.ofInt 64 0).toNat = 0 := by decide +kernel
  show IntKind.i64.wrap ((BitVec.ofInt 64 0 ||| BitVec.ofInt 64 (t : Int)).toNat : Int) = _
  rw [BitVec.toNat_or, h1, h2, Nat.zero_or]
  exact IntWalk.i64_in _ (by omega)
set_option maxHeartbeats 2000000 in
theorem fmul_any (w : World) (v : Int) (h0 : -196608 ≤ v) (h1 : v ≤ 196608) :
    Calls Tryz.prog 95 #[.int .i64 v, .int .i64 57344] w fun e w' => e = .returned (.int .i64 (mulV v)) ∧ w = w' := by
  have pA := Lib.hid (fun w => wide_any w v h0 h1)
  by_cases c : v < 0
  · rw [if_pos c, if_pos c] at pA
    obtain ⟨t, ht⟩ : ∃ t : Nat, (t : Int) = (v * 57344 + 18446744073709551616) / 65536 := ⟨((v * 57344 + 18446744073709551616) / 65536).toNat, by omega⟩
    have t1 : t < 281474976710656 := by omega
    have E := Lib.hid (show mulV v = (t : Int) - 281474976710656 by unfold mulV; omega)
    obtain ⟨l, hl⟩ : ∃ l : Int, l = v * 57344 + 18446744073709551616 := ⟨_, rfl⟩
    rw [← hl] at pA ht
    have q1 : l / 65536 = (t : Int) := ht.symm
    have l0 : 0 ≤ l := by omega
    have q2 : IntKind.i64.wrap (t : Int) = (t : Int) := IntWalk.i64_in _ (by omega)
    have q3 := or_top t1
    have q4 : IntKind.i64.wrap (-281474976710656) = -281474976710656 := by decide +kernel
    clear ht hl
    go_enter Tryz.func95, Tryz.ntmps95
    go_wp2_with fail
    refine (pA.out _).mono ?_
    rintro e w' ⟨rfl, rfl⟩
    go_wp2_with fail
    go_ret
    exact ⟨ret_int E.out.symm, rfl⟩
  · rw [if_neg c, if_neg c] at pA
    obtain ⟨t, ht⟩ : ∃ t : Nat, (t : Int) = v * 57344 / 65536 := ⟨(v * 57344 / 65536).toNat, by omega⟩
    have t1 : t < 281474976710656 := by omega
    have E := Lib.hid (show mulV v = (t : Int) by unfold mulV; omega)
    obtain ⟨l, hl⟩ : ∃ l : Int, l = v * 57344 := ⟨_, rfl⟩
    rw [← hl] at pA ht
    have q1 : l / 65536 = (t : Int) := ht.symm
    have l0 : 0 ≤ l := by omega
    have q2 : IntKind.i64.wrap (t : Int) = (t : Int) := IntWalk.i64_in _ (by omega)
    have q3 := or_zero t1
    clear ht hl
    go_enter Tryz.func95, Tryz.ntmps95
    go_wp2_with fail
    refine (pA.out _).mono ?_
    rintro e w' ⟨rfl, rfl⟩
    go_wp2_with fail
    go_ret
    exact ⟨ret_int E.out.symm, rfl⟩
end Go.Proofs.YtckkpgopddnkiaaGreat.Gm
namespace Go.Proofs.YtckkpgopddnkiaaGreat
open Go.RowKit
set_option linter.all false

section
variable {P : Program} {S : Nat → Prop} {w w' : World} {g : Nat} {t : TypeId} {cs : Array Value}
theorem Blk.setRow (h : Blk w g t cs) (cs' : Array Value) : Blk (w.setRow g cs') g t cs' := setRow_heap w g cs cs' t (0, 0) h
theorem touch_setRow (w : World) (g : Nat) (cs : Array Value) : Touch (fun k => k = g) w (w.setRow g cs) :=
  ⟨rfl, rfl, rfl, by simp, fun k _ hk => setRow_other w g k cs hk⟩
theorem wpList_load_blk {ops : Array Oper} {rest : List Oper} {o : Oper} {a : Act} {Q : Exit → Act → World → Prop} (hgd : o.guard = none) (ty : TypeId) (x : Operand) (ho : o.op = .load ty x)
    (g : Nat) (hx : a.eval x = .pointer (some ⟨g, 0, none⟩)) (t : TypeId) (cs : Array Value) (d : TypeDesc) (hg : Blk w g t cs)
    (hu : P.underlying ty = some d) (hd : (match d with | .struct _ | .array _ _ => true | _ => false) = true) (hi : (P.info? ty).map (·.size) = some cs.size)
    (h : wpList P ops Q rest (a.put o.dst (.agg cs)) w) : wpList P ops Q (o :: rest) a w :=
  wpList_load_row hgd ty x ho g hx t cs (0, 0) d hg hu hd hi h
theorem wpList_store_blk {ops : Array Oper} {rest : List Oper} {o : Oper} {a : Act} {Q : Exit → Act → World → Prop} (hgd : o.guard = none) (ty : TypeId) (x y : Operand) (ho : o.op = .store ty x y)
    (g : Nat) (cells : Array Value) (hx : a.eval x = .pointer (some ⟨g, 0, none⟩)) (hy : a.eval y = .agg cells)
    (t : TypeId) (old : Array Value) (hg : Blk w g t old) (hi : (P.info? ty).map (·.size) = some cells.size)
    (hold : old.size = cells.size) (h1 : cells.all (·.oneCell') = true)
    (h : ∀ w', Blk w' g t cells → Touch (fun k => k = g) w w' → wpList P ops Q rest (a.put o.dst undef) w') : wpList P ops Q (o :: rest) a w :=
  wpList_store_row hgd ty x y ho g cells hx hy t old hg hi hold h1 (h _ (hg.setRow cells) (touch_setRow w g cells))
theorem touch_setCells (h : Touch S w w') (g : Nat) (hg : S g ∨ w.heap.size ≤ g) : ∀ (vs : List Value) (o : Nat), Touch S w (w'.setCells g o vs) := by
  intro vs
  induction vs generalizing w' with
  | nil => intro o; exact h
  | cons v r ih => intro o; exact ih (h.setCell (p := ⟨g, o, none⟩) hg v) (o + 1)
/-- A result that lies in a block. -/
theorem results_blk {fn : Func} {p : Tmp} {ty : TypeId} (h : fn.results = #[.cell p ty]) (tmps : Array Value) (w : World) (g : Nat) (t : TypeId) (cs : Array Value) (d : TypeDesc)
    (hp : tmps.getD p undef = .pointer (some ⟨g, 0, none⟩)) (hg : Blk w g t cs)
    (hu : P.underlying ty = some d) (hd : (match d with | .struct _ | .array _ _ => true | _ => false) = true) (hi : (P.info? ty).map (·.size) = some cs.size) :
    (results fn tmps).run P w = .ok (.agg cs) w := results_cell_row h tmps w g t cs (0, 0) d hp hg hu hd hi
end
end Go.Proofs.YtckkpgopddnkiaaGreat
