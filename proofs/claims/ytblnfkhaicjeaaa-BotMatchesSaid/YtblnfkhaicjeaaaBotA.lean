/-
  A player by itself: where it goes, where it looks; of the program and of the document.
-/
import Derived.Test.YtblnfkhaicjeaaaRmv
namespace Go.Proofs.Ytblnfkhaicjeaaa.Bot
open Go.RowKit Go.Proofs.Ytblnfkhaicjeaaa.Num Go.Proofs.Ytblnfkhaicjeaaa.Gm
set_option linter.all false

def towV (a b : Int) : Nat := if a < b then 2 else if b < a then 1 else 0
def awayV (a b : Int) : Nat := if a < b then 1 else 2
def farV (a b : Int) : Int := absV (hold (a - b))
def wayV (o p : Body) : Nat := if o.life < 40 ∧ farV o.x p.x < 3932160 then awayV o.x p.x else if 2621440 < farV o.x p.x then towV o.x p.x else 0
def facesV (o p : Body) : Bool := (decide (o.x < p.x) && decide (0 < o.facing)) || (decide (p.x < o.x) && decide (o.facing < 0))
/-- All of a body's numbers fit. -/
structure Fit (b : Body) : Prop where
  x0 : -9223372036854775808 ≤ b.x
  x1 : b.x ≤ 9223372036854775807
  y0 : -9223372036854775808 ≤ b.y
  y1 : b.y ≤ 9223372036854775807

set_option maxHeartbeats 1000000 in
theorem toward_any (w : World) (a b : Int) :
    Calls Try.prog 77 #[.int .i64 a, .int .i64 b] w fun e w' => e = .returned (.int .u16 (towV a b)) ∧ w = w' := by
  unfold towV
  by_cases c1 : a < b
  · rw [if_pos c1]
    go_enter Try.func77, Try.ntmps77
    go_wp2
    go_ret
    exact ⟨rfl, rfl⟩
  · rw [if_neg c1]
    by_cases c2 : b < a
    · rw [if_pos c2]
      go_enter Try.func77, Try.ntmps77
      go_wp2
      go_ret
      exact ⟨rfl, rfl⟩
    · rw [if_neg c2]
      go_enter Try.func77, Try.ntmps77
      go_wp2
      go_ret
      exact ⟨rfl, rfl⟩
set_option maxHeartbeats 1000000 in
theorem away_any (w : World) (a b : Int) :
    Calls Try.prog 113 #[.int .i64 a, .int .i64 b] w fun e w' => e = .returned (.int .u16 (awayV a b)) ∧ w = w' := by
  have p := Lib.hid (fun W => toward_any W a b)
  unfold towV at p
  unfold awayV
  by_cases c1 : a < b
  · rw [if_pos c1] at p ⊢
    clear c1
    go_enter Try.func113, Try.ntmps113
    go_wp2_with fail
    refine (p.out _).mono ?_
    rintro e w1 ⟨rfl, rfl⟩
    go_wp2_with fail
    go_ret
    exact ⟨rfl, rfl⟩
  · rw [if_neg c1] at p ⊢
    by_cases c2 : b < a
    · rw [if_pos c2] at p
      clear c1 c2
      go_enter Try.func113, Try.ntmps113
      go_wp2_with fail
      refine (p.out _).mono ?_
      rintro e w1 ⟨rfl, rfl⟩
      go_wp2_with fail
      go_ret
      exact ⟨rfl, rfl⟩
    · rw [if_neg c2] at p
      clear c1 c2
      go_enter Try.func113, Try.ntmps113
      go_wp2_with fail
      refine (p.out _).mono ?_
      rintro e w1 ⟨rfl, rfl⟩
      go_wp2_with fail
      go_ret
      exact ⟨rfl, rfl⟩
set_option maxHeartbeats 1000000 in
theorem rfar_any (w : World) (a b : Int) (a1 : -9223372036854775808 ≤ a) (a2 : a ≤ 9223372036854775807) (b1 : -9223372036854775808 ≤ b) (b2 : b ≤ 9223372036854775807) :
    Calls Try.prog 71 #[.int .i64 a, .int .i64 b] w fun e w' => e = .returned (.int .i64 (farV a b)) ∧ Below w.heap.size w w' := by
  have p1 := Lib.hid (sub_any w a b a1 a2 b1 b2)
  have hh := hold_bd (a - b)
  have HN := Lib.hid (show farV a b = absV (hold (a - b)) from rfl)
  generalize hold (a - b) = d at *
  have p2 := Lib.hid (fun w => rabs_any w d hh.1 hh.2)
  rw [← HN.out] at p2
  clear HN
  generalize farV a b = m at *
  go_enter Try.func71, Try.ntmps71
  go_wp2_with fail
  refine p1.out.mono ?_
  rintro e w1 ⟨rfl, hb1⟩
  go_wp2_with fail
  refine (p2.out _).mono ?_
  rintro e w2 ⟨rfl, hb2⟩
  go_wp2_with fail
  go_ret
  exact ⟨rfl, hb1.trans (hb2.mono hb1.size)⟩
set_option maxHeartbeats 2000000 in
theorem rtoward_any (w : World) (o p : Body) :
    Calls Try.prog 70 #[bodV o, bodV p] w fun e w' => e = .returned (.int .u16 (towV o.x p.x)) ∧ Below w.heap.size w w' := by
  unfold bodV bodL towV
  by_cases c1 : o.x < p.x
  · rw [if_pos c1]
    go_enter Try.func70, Try.ntmps70
    go_wp2
    go_ret
    exact ⟨rfl, ((Below.refl _ w).alloc (Nat.le_refl _) _).alloc (by simp) _⟩
  · rw [if_neg c1]
    by_cases c2 : p.x < o.x
    · rw [if_pos c2]
      go_enter Try.func70, Try.ntmps70
      go_wp2
      go_ret
      exact ⟨rfl, ((Below.refl _ w).alloc (Nat.le_refl _) _).alloc (by simp) _⟩
    · rw [if_neg c2]
      go_enter Try.func70, Try.ntmps70
      go_wp2
      go_ret
      exact ⟨rfl, ((Below.refl _ w).alloc (Nat.le_refl _) _).alloc (by simp) _⟩
set_option maxHeartbeats 2000000 in
theorem faces_any (w : World) (o p : Body) :
    Calls Try.prog 76 #[bodV o, bodV p] w fun e w' => e = .returned (.bool (facesV o p)) ∧ Below w.heap.size w w' := by
  unfold bodV bodL
  have HF := Lib.hid (show facesV o p = ((decide (o.x < p.x) && decide (0 < o.facing)) || (decide (p.x < o.x) && decide (o.facing < 0))) from rfl)
  by_cases c1 : o.x < p.x
  · by_cases c2 : 0 < o.facing
    · go_enter Try.func76, Try.ntmps76
      go_wp2
      go_ret
      exact ⟨ret_bool (by rw [HF.out]; first | (simp [c1, c2]; done) | (simp [c1, c2]; omega)), ((Below.refl _ w).alloc (Nat.le_refl _) _).alloc (by simp) _⟩
    · have c3 : ¬ p.x < o.x := by omega
      go_enter Try.func76, Try.ntmps76
      go_wp2
      go_ret
      exact ⟨ret_bool (by rw [HF.out]; first | (simp [c1, c2, c3]; done) | (simp [c1, c2, c3]; omega)), ((Below.refl _ w).alloc (Nat.le_refl _) _).alloc (by simp) _⟩
  · by_cases c3 : p.x < o.x
    · by_cases c2 : o.facing < 0
      · go_enter Try.func76, Try.ntmps76
        go_wp2
        go_ret
        exact ⟨ret_bool (by rw [HF.out]; first | (simp [c1, c2, c3]; done) | (simp [c1, c2, c3]; omega)), ((Below.refl _ w).alloc (Nat.le_refl _) _).alloc (by simp) _⟩
      · go_enter Try.func76, Try.ntmps76
        go_wp2
        go_ret
        exact ⟨ret_bool (by rw [HF.out]; first | (simp [c1, c2, c3]; done) | (simp [c1, c2, c3]; omega)), ((Below.refl _ w).alloc (Nat.le_refl _) _).alloc (by simp) _⟩
    · go_enter Try.func76, Try.ntmps76
      go_wp2
      go_ret
      exact ⟨ret_bool (by rw [HF.out]; first | (simp [c1, c3]; done) | (simp [c1, c3]; omega)), ((Below.refl _ w).alloc (Nat.le_refl _) _).alloc (by simp) _⟩
set_option maxRecDepth 100000 in
set_option maxHeartbeats 4000000 in
theorem way_any (w : World) (o p : Body) (ho : Fit o) (hp : Fit p) :
    Calls Try.prog 73 #[bodV o, bodV p] w fun e w' => e = .returned (.int .u16 (wayV o p)) ∧ Below w.heap.size w w' := by
  have p1 := Lib.hid (fun W => wsub_any W o.x p.x ho.x0 ho.x1 hp.x0 hp.x1)
  have hh := hold_bd (o.x - p.x)
  have HW := Lib.hid (show wayV o p = if o.life < 40 ∧ farV o.x p.x < 3932160 then awayV o.x p.x else if 2621440 < farV o.x p.x then towV o.x p.x else 0 from rfl)
  have p2 := Lib.hid (fun W => abs_any W (hold (o.x - p.x)) hh.1 hh.2)
  rw [show absV (hold (o.x - p.x)) = farV o.x p.x from rfl] at p2
  generalize hold (o.x - p.x) = d at *
  generalize farV o.x p.x = m at *
  have p3 := Lib.hid (fun W => away_any W o.x p.x)
  have p4 := Lib.hid (fun W => toward_any W o.x p.x)
  generalize awayV o.x p.x = va at *
  generalize towV o.x p.x = vt at *
  clear ho hp hh
  unfold bodV bodL
  by_cases c1 : o.life < 40 ∧ m < 3932160
  · have HW2 := HW.out
    rw [if_pos c1] at HW2
    have HV := Lib.hid HW2
    obtain ⟨c1, c2⟩ := c1
    clear HW HW2
    go_enter Try.func73, Try.ntmps73
    go_wp2_with fail
    refine (p1.out _).mono ?_
    rintro e w1 ⟨rfl, rfl⟩
    go_wp2_with fail
    refine (p2.out _).mono ?_
    rintro e w1 ⟨rfl, rfl⟩
    go_wp2_with fail
    refine (p3.out _).mono ?_
    rintro e w1 ⟨rfl, rfl⟩
    go_wp2_with fail
    go_ret
    exact ⟨by rw [HV.out]; try rfl, ((Below.refl _ w).alloc (Nat.le_refl _) _).alloc (by simp) _⟩
  · have HW2 := HW.out
    rw [if_neg c1] at HW2
    have HV := Lib.hid HW2
    clear HW HW2
    go_enter Try.func73, Try.ntmps73
    go_wp2_with fail
    refine (p1.out _).mono ?_
    rintro e w1 ⟨rfl, rfl⟩
    go_wp2_with fail
    refine (p2.out _).mono ?_
    rintro e w1 ⟨rfl, rfl⟩
    have HC := Lib.hid c1
    clear c1
    by_cases c2 : 2621440 < m
    · have HW2 := HV.out
      rw [if_pos c2] at HW2
      have HU := Lib.hid HW2
      clear HV HW2
      by_cases c3 : o.life < 40
      · have c4 : ¬ m < 3932160 := fun h => HC.out ⟨c3, h⟩
        go_wp2_with fail
        refine (p4.out _).mono ?_
        rintro e w1 ⟨rfl, rfl⟩
        go_wp2_with fail
        go_ret
        exact ⟨by rw [HU.out]; try rfl, ((Below.refl _ w).alloc (Nat.le_refl _) _).alloc (by simp) _⟩
      · go_wp2_with fail
        refine (p4.out _).mono ?_
        rintro e w1 ⟨rfl, rfl⟩
        go_wp2_with fail
        go_ret
        exact ⟨by rw [HU.out]; try rfl, ((Below.refl _ w).alloc (Nat.le_refl _) _).alloc (by simp) _⟩
    · have HW2 := HV.out
      rw [if_neg c2] at HW2
      have HU := Lib.hid HW2
      clear HV HW2
      have c3 : ¬ o.life < 40 := fun h => HC.out ⟨h, by omega⟩
      go_wp2_with fail
      go_ret
      exact ⟨by rw [HU.out]; try rfl, ((Below.refl _ w).alloc (Nat.le_refl _) _).alloc (by simp) _⟩
set_option maxRecDepth 100000 in
set_option maxHeartbeats 4000000 in
theorem rway_any (w : World) (o p : Body) (ho : Fit o) (hp : Fit p) :
    Calls Try.prog 68 #[bodV o, bodV p] w fun e w' => e = .returned (.int .u16 (wayV o p)) ∧ Below w.heap.size w w' := by
  have p1 := Lib.hid (fun W => rfar_any W o.x p.x ho.x0 ho.x1 hp.x0 hp.x1)
  have HW := Lib.hid (show wayV o p = if o.life < 40 ∧ farV o.x p.x < 3932160 then awayV o.x p.x else if 2621440 < farV o.x p.x then towV o.x p.x else 0 from rfl)
  have p4 := Lib.hid (fun W => rtoward_any W o p)
  have HA := Lib.hid (show awayV o.x p.x = if o.x < p.x then 1 else 2 from rfl)
  generalize farV o.x p.x = m at *
  generalize awayV o.x p.x = va at *
  generalize towV o.x p.x = vt at *
  clear ho hp
  unfold bodV bodL at p4 ⊢
  have B0 := Lib.hid (((Below.refl _ w).alloc (Nat.le_refl _) (.cells #[.int .i64 o.x, .int .i64 o.y, .int .i64 o.vx, .int .i64 o.vy, .int .i64 o.life, .int .i64 o.cool, .int .i64 o.facing] 26)).alloc (by simp) (.cells #[.int .i64 p.x, .int .i64 p.y, .int .i64 p.vx, .int .i64 p.vy, .int .i64 p.life, .int .i64 p.cool, .int .i64 p.facing] 26))
  by_cases c1 : o.life < 40 ∧ m < 3932160
  · have HW2 := HW.out
    rw [if_pos c1] at HW2
    have HV := Lib.hid HW2
    obtain ⟨c1, c2⟩ := c1
    clear HW HW2
    by_cases c3 : o.x < p.x
    · have HA2 := HA.out
      rw [if_pos c3] at HA2
      have HA3 := Lib.hid HA2
      clear HA2 HA
      go_enter Try.func68, Try.ntmps68
      go_wp2_with fail
      refine (p1.out _).mono ?_
      rintro e w1 ⟨rfl, hb⟩
      obtain ⟨hc, hf⟩ := bcell hb
      go_wp2_with fail
      go_ret
      exact ⟨by rw [HV.out, HA3.out]; try rfl, B0.out.trans (hb.mono (by simp; omega))⟩
    · have HA2 := HA.out
      rw [if_neg c3] at HA2
      have HA3 := Lib.hid HA2
      clear HA2 HA
      go_enter Try.func68, Try.ntmps68
      go_wp2_with fail
      refine (p1.out _).mono ?_
      rintro e w1 ⟨rfl, hb⟩
      obtain ⟨hc, hf⟩ := bcell hb
      go_wp2_with fail
      go_ret
      exact ⟨by rw [HV.out, HA3.out]; try rfl, B0.out.trans (hb.mono (by simp; omega))⟩
  · have HW2 := HW.out
    rw [if_neg c1] at HW2
    have HV := Lib.hid HW2
    clear HW HW2
    go_enter Try.func68, Try.ntmps68
    go_wp2_with fail
    refine (p1.out _).mono ?_
    rintro e w1 ⟨rfl, hb⟩
    obtain ⟨hc, hf⟩ := bcell hb
    have B1 := Lib.hid (B0.out.trans (hb.mono (by simp; omega)))
    have HC := Lib.hid c1
    clear c1 hb
    by_cases c2 : 2621440 < m
    · have HW2 := HV.out
      rw [if_pos c2] at HW2
      have HU := Lib.hid HW2
      clear HV HW2
      by_cases c3 : o.life < 40
      · have c4 : ¬ m < 3932160 := fun h => HC.out ⟨c3, h⟩
        go_wp2_with fail
        refine (p4.out _).mono ?_
        rintro e w2 ⟨rfl, hb2⟩
        go_wp2_with fail
        go_ret
        exact ⟨by rw [HU.out]; try rfl, B1.out.trans (hb2.mono B1.out.size)⟩
      · go_wp2_with fail
        refine (p4.out _).mono ?_
        rintro e w2 ⟨rfl, hb2⟩
        go_wp2_with fail
        go_ret
        exact ⟨by rw [HU.out]; try rfl, B1.out.trans (hb2.mono B1.out.size)⟩
    · have HW2 := HV.out
      rw [if_neg c2] at HW2
      have HU := Lib.hid HW2
      clear HV HW2
      have c3 : ¬ o.life < 40 := fun h => HC.out ⟨h, by omega⟩
      go_wp2_with fail
      go_ret
      exact ⟨by rw [HU.out]; try rfl, B1.out⟩
end Go.Proofs.Ytblnfkhaicjeaaa.Bot
