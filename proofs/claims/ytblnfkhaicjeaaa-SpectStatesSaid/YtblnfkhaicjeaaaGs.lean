/-
  The walks of game.slide, born, hits.
-/
import Derived.Test.YtblnfkhaicjeaaaGf
import Derived.Lib.QuietBelow
namespace Go.Proofs.Ytblnfkhaicjeaaa.Gm
open Go.RowKit Go.Proofs.Ytblnfkhaicjeaaa.Num
set_option linter.all false

set_option maxRecDepth 100000 in
set_option maxHeartbeats 4000000 in
theorem slide_any (w : World) (g : Nat) (t : TypeId) (f : F) (i : Nat) (b : Body) (hi : i < 2) (hS : BS w g t f i b) (hb : BodyOk b) :
    Calls Try.prog 63 #[.pointer (some ⟨g, 2 + i * 7, none⟩)] w fun e w' => e = .returned (.tuple #[]) ∧ BS w' g t f i (slideB b) ∧ TG g w w' := by
  have x0 := hb.x0
  have x1 := hb.x1
  have v0 := hb.vx0
  have v1 := hb.vx1
  obtain ⟨c0, -, c2, -, -, -, -, fr⟩ := hS.cells hi
  have f0 := fr (2 + i * 7)
  have f2 := fr (2 + i * 7 + 2)
  have HS := Lib.hid hS
  have HI := Lib.hid hi
  clear hS fr hi hb
  have HF := Lib.hid (show slideB b = if clampV (hold (b.x + b.vx)) 0 13107200 = hold (b.x + b.vx) then { b with x := clampV (hold (b.x + b.vx)) 0 13107200 } else { b with x := clampV (hold (b.x + b.vx)) 0 13107200, vx := 0 } from rfl)
  have pA := Lib.hid (fun n => (wadd_any (w.drewN n) b.x b.vx (by omega) (by omega) (by omega) (by omega)).mono (R' := fun e w'' => e = .returned (.int .i64 (hold (b.x + b.vx))) ∧ ∃ m, w'' = w.drewN m) (fun _ _ h => ⟨h.1, _, h.2.symm⟩))
  generalize hold (b.x + b.vx) = q at *
  have pC := Lib.hid (fun w => clamp_any w q 0 13107200)
  obtain ⟨c, hc⟩ : ∃ c, clampV q 0 13107200 = c := ⟨_, rfl⟩
  rw [hc] at HF pC
  clear hc
  go_enter Try.func63, Try.ntmps63
  go_upto_region 0 with fail
  go_quiet (exact pA.out _)
  go_wp2_with fail
  refine (pC.out _).mono ?_
  rintro e w' ⟨rfl, rfl⟩
  by_cases h : c = q
  · subst h
    have HF2 := HF.out
    rw [if_pos rfl] at HF2
    have HF3 := Lib.hid HF2
    clear HF2 HF
    go_wp2_with fail
    go_end0
    exact ⟨rfl, by rw [HF3.out]; exact (HS.out.drewN nq).x HI.out _, TG.set ((Touch.refl _ _).drewN nq) _ _⟩
  · have h' : (c == q) = false := by simpa using h
    have HF2 := HF.out
    rw [if_neg h] at HF2
    have HF3 := Lib.hid HF2
    clear HF2 HF h
    go_wp2_with fail
    go_end0
    exact ⟨rfl, by rw [HF3.out]; exact ((HS.out.drewN nq).x HI.out _).vx HI.out _, TG.set (TG.set ((Touch.refl _ _).drewN nq) _ _) _ _⟩
set_option maxHeartbeats 1000000 in
theorem born_any (w : World) (i : Nat) (hi : i < 2) :
    Calls Try.prog 54 #[.int .i64 i] w fun e w' => e = .returned (bodV (bornB i)) ∧ Below w.heap.size w w' := by
  have e : i = 0 ∨ i = 1 := by omega
  rcases e with rfl | rfl
  all_goals
    clear hi
    go_enter Try.func54, Try.ntmps54
    go_wp2_with fail
    refine bodyPost_ret (v := bodV (bornB _)) (by simp [results, Try.results54, go_sem, bodV, bodL, bornB]) rfl ⟨rfl, ?_⟩
    repeat (refine Below.setCell ?_ (by simp) _)
    exact ((Below.refl _ _).alloc (Nat.le_refl _) _).alloc (by simp) _

set_option maxHeartbeats 1000000 in
theorem hits_any (w : World) (s : Shot) (b : Body) (sx0 : -9223372036854775808 ≤ s.x) (sx1 : s.x ≤ 9223372036854775807) (sy0 : -9223372036854775808 ≤ s.y) (sy1 : s.y ≤ 9223372036854775807) (hb : BodyOk b) :
    Calls Try.prog 107 #[shoV s, bodV b] w fun e w' => e = .returned (.bool (hitsV s b)) ∧ Below w.heap.size w w' := by
  have x0 := hb.x0
  have x1 := hb.x1
  have y0 := hb.y0
  have y1 := hb.y1
  have HH := Lib.hid (show hitsV s b = (nearV s.x b.x 262144 && nearV s.y (hold (b.y + 65536)) 393216) from rfl)
  have hh := hold_bd (b.y + 65536)
  obtain ⟨W1, hW1, HBW⟩ : ∃ W1, W1 = (w.alloc (.cells (shoL s).toArray 29)).alloc (.cells (bodL b).toArray 26) ∧ Below w.heap.size w W1 := ⟨_, rfl, ((Below.refl _ _).alloc (Nat.le_refl _) _).alloc (by simp) _⟩
  have k1 : W1.cell? ⟨w.heap.size, 1, none⟩ = some (.int .i64 s.x) := by rw [hW1]; exact ((Blk.new w 29 (shoL s).toArray).alloc _).cell 1
  have k2 : W1.cell? ⟨w.heap.size, 2, none⟩ = some (.int .i64 s.y) := by rw [hW1]; exact ((Blk.new w 29 (shoL s).toArray).alloc _).cell 2
  have b0 : W1.cell? ⟨w.heap.size + 1, 0, none⟩ = some (.int .i64 b.x) := by rw [hW1]; have := (Blk.new (w.alloc (.cells (shoL s).toArray 29)) 26 (bodL b).toArray).cell 0; simpa [bodL] using this
  have b1 : W1.cell? ⟨w.heap.size + 1, 1, none⟩ = some (.int .i64 b.y) := by rw [hW1]; have := (Blk.new (w.alloc (.cells (shoL s).toArray 29)) 26 (bodL b).toArray).cell 1; simpa [bodL] using this
  have p1 := Lib.hid (fun n => (near_any (W1.drewN n) s.x b.x 262144 (by omega) (by omega) (by omega) (by omega) (by omega)).mono (R' := fun e w'' => e = .returned (.bool (nearV s.x b.x 262144)) ∧ ∃ m, w'' = W1.drewN m) (fun _ _ h => ⟨h.1, _, h.2.symm⟩))
  have p2 := Lib.hid (fun n => (wadd_any (W1.drewN n) b.y 65536 (by omega) (by omega) (by omega) (by omega)).mono (R' := fun e w'' => e = .returned (.int .i64 (hold (b.y + 65536))) ∧ ∃ m, w'' = W1.drewN m) (fun _ _ h => ⟨h.1, _, h.2.symm⟩))
  have p3 := Lib.hid (fun n => (near_any (W1.drewN n) s.y (hold (b.y + 65536)) 393216 (by omega) (by omega) (by omega) (by omega) (by omega)).mono (R' := fun e w'' => e = .returned (.bool (nearV s.y (hold (b.y + 65536)) 393216)) ∧ ∃ m, w'' = W1.drewN m) (fun _ _ h => ⟨h.1, _, h.2.symm⟩))
  generalize hold (b.y + 65536) = q at *
  generalize nearV s.x b.x 262144 = n1 at *
  generalize nearV s.y q 393216 = n2 at *
  unfold shoV bodV
  unfold shoL bodL at hW1 ⊢
  clear hb
  cases n1
  · go_enter Try.func107, Try.ntmps107
    go_upto_region 1 with fail
    rw [← hW1]
    clear hW1
    go_quiet (exact p1.out _)
    go_wp2_with fail
    go_ret
    exact ⟨ret_bool (by rw [HH.out]; rfl), below_drewN HBW _⟩
  · go_enter Try.func107, Try.ntmps107
    go_upto_region 1 with fail
    rw [← hW1]
    clear hW1
    go_quiet ((first | (go_at_call 105; exact p2.out _) | (go_at_call_of 75 (Value.int IntKind.i64 262144); exact p1.out _) | (go_at_call_of 75 (Value.int IntKind.i64 393216); exact p3.out _)))
    go_wp2_with fail
    go_ret
    exact ⟨ret_bool (by rw [HH.out]; cases n2 <;> rfl), below_drewN HBW _⟩
end Go.Proofs.Ytblnfkhaicjeaaa.Gm
