/-
  A player by itself: its numbers by chance; the program's and the document's.
-/
import Derived.Test.YtblnfkhaicjeaaaBotA
import Derived.Test.YtblnfkhaicjeaaaRstep
import Derived.Laws.Bits64b
import Derived.StillTailTactics
namespace Go.Proofs.Ytblnfkhaicjeaaa.Bot
open Go.RowKit Go.Proofs.Ytblnfkhaicjeaaa.Num Go.Proofs.Ytblnfkhaicjeaaa.Gm
set_option linter.all false

/-- A player in memory. -/
def PB (w : World) (g : Nat) (who : Nat) (s : Int) (bold : Nat) : Prop := Blk w g 61 #[.int .i64 who, .int .u32 s, .int .i64 bold]
section
variable {w w' : World} {g who bold : Nat} {s : Int}
theorem PB.c0 (h : PB w g who s bold) : w.cell? ⟨g, 0, none⟩ = some (.int .i64 who) := Blk.cell h 0
theorem PB.c1 (h : PB w g who s bold) : w.cell? ⟨g, 1, none⟩ = some (.int .u32 s) := Blk.cell h 1
theorem PB.c2 (h : PB w g who s bold) : w.cell? ⟨g, 2, none⟩ = some (.int .i64 bold) := Blk.cell h 2
theorem PB.f1 (h : PB w g who s bold) : w.frozen? ⟨g, 1, none⟩ = false := Blk.frozen h 1
theorem PB.set (h : PB w g who s bold) (t : Int) : PB (w.setCell ⟨g, 1, none⟩ (.int .u32 t)) g who t bold := Blk.set_ h 1 _
theorem PB.below (h : PB w g who s bold) (hb : Below w.heap.size w w') : PB w' g who s bold := Blk.below h hb (Blk.lt h)
end
def drawV (s : Int) (m : Nat) : Int := rollV s / 65536 % m
theorem rollV_in (s : Int) : 0 ≤ rollV s ∧ rollV s < 4294967296 := by unfold rollV; omega
theorem drawV_in (s : Int) {m : Nat} (hm : 0 < m) : 0 ≤ drawV s m ∧ drawV s m < m := by
  unfold drawV
  exact ⟨Int.emod_nonneg _ (by omega), Int.emod_lt_of_pos _ (by omega)⟩

set_option maxHeartbeats 2000000 in
theorem chance_any (w : World) (g who bold m : Nat) (s : Int) (h : PB w g who s bold) (h0 : 0 ≤ s) (h1 : s < 4294967296) (hm : 0 < m) (hm2 : m ≤ 64) :
    Calls Try.prog 72 #[.pointer (some ⟨g, 0, none⟩), .int .u32 m] w fun e w' => e = .returned (.int .i64 (drawV s m)) ∧ w' = w.setCell ⟨g, 1, none⟩ (.int .u32 (rollV s)) := by
  have p := Lib.hid (fun W => roll_any W s h0 h1)
  have c1 := h.c1
  have f1 := h.f1
  have hr := rollV_in s
  have hd := drawV_in s hm
  have HD := Lib.hid (show drawV s m = rollV s / 65536 % m from rfl)
  have hm0 : ¬ (m : Int) = 0 := by omega
  generalize drawV s m = d at *
  generalize rollV s = r at *
  go_enter Try.func72, Try.ntmps72
  go_wp2_with fail
  refine (p.out _).mono ?_
  rintro e w1 ⟨rfl, rfl⟩
  go_wp2_with fail
  go_ret
  have HW : wrap64 (r / 65536 % m) = d := by rw [← HD.out]; exact IntWalk.wrap64_in d (by omega)
  exact ⟨ret_int HW, rfl⟩
/-- The document's player, as a value. -/
def botV (who : Nat) (s : Int) (bold : Nat) : Value := .agg #[.int .i64 who, .int .u32 s, .int .i64 bold]
set_option maxRecDepth 100000 in
set_option maxHeartbeats 2000000 in
theorem rchance_any (w : World) (who bold m : Nat) (s : Int) (h0 : 0 ≤ s) (h1 : s < 4294967296) (hm : 0 < m) (hm2 : m ≤ 64) :
    Calls Try.prog 67 #[botV who s bold, .int .u32 m] w fun e w' => e = .returned (.tuple #[botV who (rollV s) bold, .int .i64 (drawV s m)]) ∧ Below w.heap.size w w' := by
  have hr := rollV_in s
  have hd := drawV_in s hm
  have HD := Lib.hid (show drawV s m = rollV s / 65536 % m from rfl)
  have e1 := show IntKind.u32.wrap (IntKind.u32.wrap (s * 1664525) + 1013904223) = rollV s by simp [IntKind.wrap, IntKind.bits, IntKind.signed, rollV]
  have e3 : (s * 1664525 + 1013904223) % 4294967296 = rollV s := by rw [← e1]; simp [IntKind.wrap, IntKind.bits, IntKind.signed]
  have e4 : (s * 1664525 % 4294967296 + 1013904223) % 4294967296 = rollV s := by rw [← e1]; simp [IntKind.wrap, IntKind.bits, IntKind.signed]
  have hm0 : ¬ (m : Int) = 0 := by omega
  generalize drawV s m = d at *
  generalize rollV s = r at *
  have h17 := Lib.hid (show IntKind.i64.wrap d = d from IntWalk.i64_in _ (by omega))
  unfold botV
  go_enter Try.func67, Try.ntmps67
  go_upto_region 2 with fail
  obtain ⟨W2, hW2⟩ : ∃ W2, W2 = (w.alloc (.cells #[.int .i64 who, .int .u32 r, .int .i64 bold] 57)).alloc (.cells #[.int .i64 0, .int .u32 0, .int .i64 0] 57) := ⟨_, rfl⟩
  rw [← hW2]
  have hX : Blk W2 w.heap.size 57 #[.int .i64 who, .int .u32 r, .int .i64 bold] := by rw [hW2]; exact (Blk.new _ _ _).alloc _
  have hZ : Blk W2 (w.heap.size + 1) 57 #[.int .i64 0, .int .u32 0, .int .i64 0] := by
    rw [hW2]
    have := Blk.new (w.alloc (.cells #[.int .i64 who, .int .u32 r, .int .i64 bold] 57)) 57 #[.int .i64 0, .int .u32 0, .int .i64 0]
    simpa using this
  have hB : Below w.heap.size w W2 := by rw [hW2]; exact ((Below.refl _ w).alloc (Nat.le_refl _) _).alloc (by simp) _
  clear hW2
  rw [e4]
  generalize s * 1664525 % 4294967296 = u8
  have c1 : W2.cell? ⟨w.heap.size, 1, none⟩ = some (.int .u32 r) := hX.cell 1
  have ib : (Try.prog.info? 57).map (·.size) = some 3 := by kernel_rfl
  have q1 : r.tdiv 65536 = r / 65536 := Int.tdiv_eq_ediv_of_nonneg hr.1
  have q2 : IntKind.u32.wrap (r / 65536) = r / 65536 := IntWalk.u32_in (r / 65536) (by omega)
  have q3 : (r / 65536).tmod m = d := by rw [HD.out]; exact Int.tmod_eq_emod_of_nonneg (by omega)
  have q4 := h17.out
  have q5 : ¬ m = 0 := by omega
  clear e1 e3 e4
  have z0 : W2.cell? ⟨w.heap.size + 1, 0, none⟩ = some (.int .i64 0) := hZ.cell 0
  have z1 : W2.cell? ⟨w.heap.size + 1, 1, none⟩ = some (.int .u32 0) := hZ.cell 1
  have z2 : W2.cell? ⟨w.heap.size + 1, 2, none⟩ = some (.int .i64 0) := hZ.cell 2
  have g0 : W2.frozen? ⟨w.heap.size + 1, 0, none⟩ = false := hZ.frozen 0
  have g1 : W2.frozen? ⟨w.heap.size + 1, 1, none⟩ = false := hZ.frozen 1
  have g2 : W2.frozen? ⟨w.heap.size + 1, 2, none⟩ = false := hZ.frozen 2
  have c0 : W2.cell? ⟨w.heap.size, 0, none⟩ = some (.int .i64 who) := hX.cell 0
  have c2 : W2.cell? ⟨w.heap.size, 2, none⟩ = some (.int .i64 bold) := hX.cell 2
  have HB := Lib.hid hB.drew
  clear hB hX hZ ib
  go_region_held3 (fun w' => w'.cell? ⟨w.heap.size, 0, none⟩ = some (.int .i64 who) ∧ w'.cell? ⟨w.heap.size, 1, none⟩ = some (.int .u32 r) ∧ w'.cell? ⟨w.heap.size, 2, none⟩ = some (.int .i64 bold)) (go_keep) (fail)
  all_goals
    go_wp2_with fail
    refine bodyPost_ret (v := .tuple #[.agg #[.int .i64 who, .int .u32 r, .int .i64 bold], .int .i64 d]) (by simp [results, Try.results67, go_sem, z0, z1, z2]) rfl ⟨rfl, ?_⟩
    exact ((HB.out.setCell (by simp) _).setCell (by simp) _).setCell (by simp) _
end Go.Proofs.Ytblnfkhaicjeaaa.Bot
