/-
  The walks of game: walk, fall, slide (one body behind a pointer into a state).
-/
import Derived.Test.YtblnfkhaicjeaaaTimes
import Derived.BigRegion
import Derived.StillTailTactics
namespace Go.Proofs.Ytblnfkhaicjeaaa.Gm
open Go.RowKit Go.Proofs.Ytblnfkhaicjeaaa.Num
set_option linter.all false

/-- A body's cells. -/
structure BodyAt (w : World) (g o : Nat) (b : Body) : Prop where
  x : w.cell? ⟨g, o, none⟩ = some (.int .i64 b.x)
  y : w.cell? ⟨g, o + 1, none⟩ = some (.int .i64 b.y)
  vx : w.cell? ⟨g, o + 2, none⟩ = some (.int .i64 b.vx)
  vy : w.cell? ⟨g, o + 3, none⟩ = some (.int .i64 b.vy)
  life : w.cell? ⟨g, o + 4, none⟩ = some (.int .i64 b.life)
  cool : w.cell? ⟨g, o + 5, none⟩ = some (.int .i64 b.cool)
  facing : w.cell? ⟨g, o + 6, none⟩ = some (.int .i64 b.facing)
  fr : ∀ j, w.frozen? ⟨g, j, none⟩ = false
theorem SB.bodyAt {w : World} {g : Nat} {t : TypeId} {f : F} (h : SB w g t f) {i : Nat} (hi : i < 2) : BodyAt w g (2 + i * 7) (bod f (2 + i * 7)) :=
  ⟨h.body hi (j := 0) (by omega), h.body hi (j := 1) (by omega), h.body hi (j := 2) (by omega), h.body hi (j := 3) (by omega), h.body hi (j := 4) (by omega), h.body hi (j := 5) (by omega), h.body hi (j := 6) (by omega), fun j => h.fr j⟩
/-- A state in which one body is this one. -/
def BS (w : World) (g : Nat) (t : TypeId) (f : F) (i : Nat) (b : Body) : Prop := SB w g t (setB f (2 + i * 7) b)
theorem setB_same (f : F) (o : Nat) : setB f o (bod f o) = f := by
  funext k
  unfold setB bod put
  (repeat' split) <;> (first | rfl | (subst_vars; rfl))
section
variable {w w' : World} {g : Nat} {t : TypeId} {f : F} {i : Nat} {b : Body}
theorem BS.of (h : SB w g t f) (i : Nat) : BS w g t f i (bod f (2 + i * 7)) := by unfold BS; rw [setB_same]; exact h
theorem BS.cells (h : BS w g t f i b) (hi : i < 2) : BodyAt w g (2 + i * 7) b := by
  have := SB.bodyAt h hi
  rwa [setB_bod] at this
theorem BS.drew (h : BS w g t f i b) : BS w.drew g t f i b := h
theorem BS.drewN (h : BS w g t f i b) (n : Nat) : BS (w.drewN n) g t f i b := h
theorem BS.x (h : BS w g t f i b) (hi : i < 2) (v : Int) : BS (w.setCell ⟨g, 2 + i * 7, none⟩ (.int .i64 v)) g t f i { b with x := v } := by
  have := SB.setInt h (j := 2 + i * 7) (by omega) (by omega) (by omega) v
  unfold BS
  have e : put (setB f (2 + i * 7) b) (2 + i * 7) v = setB f (2 + i * 7) { b with x := v } := by
    funext k; unfold setB put; (repeat' split) <;> (first | rfl | omega)
  rwa [e] at this
theorem BS.y (h : BS w g t f i b) (hi : i < 2) (v : Int) : BS (w.setCell ⟨g, 2 + i * 7 + 1, none⟩ (.int .i64 v)) g t f i { b with y := v } := by
  have := SB.setInt h (j := 2 + i * 7 + 1) (by omega) (by omega) (by omega) v
  unfold BS
  have e : put (setB f (2 + i * 7) b) (2 + i * 7 + 1) v = setB f (2 + i * 7) { b with y := v } := by
    funext k; unfold setB put; (repeat' split) <;> (first | rfl | omega)
  rwa [e] at this
theorem BS.vx (h : BS w g t f i b) (hi : i < 2) (v : Int) : BS (w.setCell ⟨g, 2 + i * 7 + 2, none⟩ (.int .i64 v)) g t f i { b with vx := v } := by
  have := SB.setInt h (j := 2 + i * 7 + 2) (by omega) (by omega) (by omega) v
  unfold BS
  have e : put (setB f (2 + i * 7) b) (2 + i * 7 + 2) v = setB f (2 + i * 7) { b with vx := v } := by
    funext k; unfold setB put; (repeat' split) <;> (first | rfl | omega)
  rwa [e] at this
theorem BS.vy (h : BS w g t f i b) (hi : i < 2) (v : Int) : BS (w.setCell ⟨g, 2 + i * 7 + 3, none⟩ (.int .i64 v)) g t f i { b with vy := v } := by
  have := SB.setInt h (j := 2 + i * 7 + 3) (by omega) (by omega) (by omega) v
  unfold BS
  have e : put (setB f (2 + i * 7) b) (2 + i * 7 + 3) v = setB f (2 + i * 7) { b with vy := v } := by
    funext k; unfold setB put; (repeat' split) <;> (first | rfl | omega)
  rwa [e] at this
theorem BS.facing (h : BS w g t f i b) (hi : i < 2) (v : Int) : BS (w.setCell ⟨g, 2 + i * 7 + 6, none⟩ (.int .i64 v)) g t f i { b with facing := v } := by
  have := SB.setInt h (j := 2 + i * 7 + 6) (by omega) (by omega) (by omega) v
  unfold BS
  have e : put (setB f (2 + i * 7) b) (2 + i * 7 + 6) v = setB f (2 + i * 7) { b with facing := v } := by
    funext k; unfold setB put; (repeat' split) <;> (first | rfl | omega)
  rwa [e] at this
end
abbrev TG (g : Nat) (w w' : World) : Prop := Touch (fun k => k = g) w w'
theorem TG.set {w w' : World} {g : Nat} (h : TG g w w') (o : Nat) (v : Value) : TG g w (w'.setCell ⟨g, o, none⟩ v) := h.setCell (.inl rfl) v

set_option maxRecDepth 100000 in
set_option maxHeartbeats 2000000 in
theorem walk_any (w : World) (g : Nat) (t : TypeId) (f : F) (i n : Nat) (b : Body) (hi : i < 2) (hn : n < 65536) (hS : BS w g t f i b) (hv0 : -196608 ≤ b.vx) (hv1 : b.vx ≤ 196608) :
    Calls Try.prog 61 #[.pointer (some ⟨g, 2 + i * 7, none⟩), .int .u16 n] w fun e w' => e = .returned (.tuple #[]) ∧ BS w' g t f i (walkB b n) ∧ TG g w w' := by
  have a1 := and1 hn
  have a2 := and2 hn
  obtain ⟨-, -, c2, -, -, -, c6, fr⟩ := hS.cells hi
  have f2 := fr (2 + i * 7 + 2)
  have f6 := fr (2 + i * 7 + 6)
  have HS := Lib.hid hS
  have HI := Lib.hid hi
  clear hS fr hi
  by_cases h1 : n % 2 = n / 2 % 2
  · have E := Lib.hid (show walkB b n = { b with vx := mulV b.vx } by unfold walkB; rw [if_pos h1])
    have pM := Lib.hid (fun w => fmul_any w b.vx hv0 hv1)
    have hz : n % 2 = 0 ∨ n % 2 = 1 := by omega
    rcases hz with h | h
    all_goals
      have h' : n / 2 % 2 = _ := h1.symm.trans h
      rw [h] at a1
      rw [h'] at a2
      simp only [Nat.zero_mul, Nat.one_mul] at a2
      have a1' : bits .and .u16 (n : Int) 1 = _ := a1
      have a2' : bits .and .u16 (n : Int) 2 = _ := a2
      clear a1 a2 h h' h1
      go_enter Try.func61, Try.ntmps61
      go_wp2_with fail
      refine (pM.out _).mono ?_
      rintro e w' ⟨rfl, rfl⟩
      go_wp2_with fail
      refine bodyPost_ret (results_none rfl _ _ _) rfl ⟨rfl, ?_⟩
      rw [E.out]
      exact ⟨HS.out.vx HI.out _, TG.set (Touch.refl _ _) _ _⟩
  · have hz : (n % 2 = 1 ∧ n / 2 % 2 = 0) ∨ (n % 2 = 0 ∧ n / 2 % 2 = 1) := by omega
    have hh0 := hold_bd (b.vx + -16384)
    have hh1 := hold_bd (b.vx + 16384)
    rcases hz with ⟨h, h'⟩ | ⟨h, h'⟩
    · have E := Lib.hid (show walkB b n = { b with facing := -1, vx := clampV (hold (b.vx + -16384)) (-196608) 196608 } by unfold walkB; rw [if_neg h1, if_pos h])
      rw [h] at a1
      rw [h'] at a2
      simp only [Nat.zero_mul, Nat.one_mul] at a2
      have a1' : bits .and .u16 (n : Int) 1 = _ := a1
      have a2' : bits .and .u16 (n : Int) 2 = _ := a2
      have pA := Lib.hid (fun w => wadd_any w b.vx (-16384) (by omega) (by omega) (by omega) (by omega))
      generalize hold (b.vx + -16384) = q at *
      have pC := Lib.hid (fun w => clamp_any w q (-196608) 196608)
      clear a1 a2 h h' h1
      go_enter Try.func61, Try.ntmps61
      go_wp2_with fail
      refine (pA.out _).mono ?_
      rintro e w' ⟨rfl, rfl⟩
      go_wp2_with fail
      refine (pC.out _).mono ?_
      rintro e w' ⟨rfl, rfl⟩
      go_wp2_with fail
      go_end0
      rw [E.out]
      exact ⟨rfl, (HS.out.facing HI.out _).vx HI.out _, TG.set (TG.set (Touch.refl _ _) _ _) _ _⟩
    · have E := Lib.hid (show walkB b n = { b with facing := 1, vx := clampV (hold (b.vx + 16384)) (-196608) 196608 } by unfold walkB; rw [if_neg h1, if_neg (by omega)])
      rw [h] at a1
      rw [h'] at a2
      simp only [Nat.zero_mul, Nat.one_mul] at a2
      have a1' : bits .and .u16 (n : Int) 1 = _ := a1
      have a2' : bits .and .u16 (n : Int) 2 = _ := a2
      have pA := Lib.hid (fun w => wadd_any w b.vx 16384 (by omega) (by omega) (by omega) (by omega))
      generalize hold (b.vx + 16384) = q at *
      have pC := Lib.hid (fun w => clamp_any w q (-196608) 196608)
      clear a1 a2 h h' h1
      go_enter Try.func61, Try.ntmps61
      go_wp2_with fail
      refine (pA.out _).mono ?_
      rintro e w' ⟨rfl, rfl⟩
      go_wp2_with fail
      refine (pC.out _).mono ?_
      rintro e w' ⟨rfl, rfl⟩
      go_wp2_with fail
      go_end0
      rw [E.out]
      exact ⟨rfl, (HS.out.facing HI.out _).vx HI.out _, TG.set (TG.set (Touch.refl _ _) _ _) _ _⟩

end Go.Proofs.Ytblnfkhaicjeaaa.Gm
