/-
  Texts joined: Gs, Gfire, Ghurt, Gfly, Gstep, Eql. No condition.
-/
import Derived.Test.YtlhoffhagfhbcaaBDiff4
import Derived.Lib.QuietBelow
import Derived.DeepKeys
import Derived.DeepKeys2
import Derived.ChangeKeysEq
import Derived.Laws.StructEq
namespace Go.Proofs.Ytlhoffhagfhbcaa.Gm
open Go.RowKit Go.Proofs.Ytlhoffhagfhbcaa.Num
set_option linter.all false

set_option maxRecDepth 100000 in
set_option maxHeartbeats 4000000 in
theorem slide_any (w : World) (g : Nat) (t : TypeId) (f : F) (i : Nat) (b : Body) (hi : i < 2) (hS : BS w g t f i b) (hb : BodyOk b) :
    Calls Try.prog 75 #[.pointer (some ⟨g, 2 + i * 7, none⟩)] w fun e w' => e = .returned (.tuple #[]) ∧ BS w' g t f i (slideB b) ∧ TG g w w' := by
  have x0 := hb.x0
  have x1 := hb.x1
  have v0 := hb.vx0
  have v1 := hb.vx1
  obtain ⟨c0, -, c2, -, -, -, -, fr⟩ := hS.cells hi
  have f0 := fr (2 + i * 7)
  have f2 := fr (2 + i * 7 + 2)
  have HS := Lib.hid hS
  have HI := Lib.hid hi
  clear hS fr hi hb
  have HF := Lib.hid (show slideB b = if clampV (hold (b.x + b.vx)) 0 13107200 = hold (b.x + b.vx) then { b with x := clampV (hold (b.x + b.vx)) 0 13107200 } else { b with x := clampV (hold (b.x + b.vx)) 0 13107200, vx := 0 } from rfl)
  have pA := Lib.hid (fun n => (wadd_any (w.drewN n) b.x b.vx (by omega) (by omega) (by omega) (by omega)).mono (R' := fun e w'' => e = .returned (.int .i64 (hold (b.x + b.vx))) ∧ ∃ m, w'' = w.drewN m) (fun _ _ h => ⟨h.1, _, h.2.symm⟩))
  generalize hold (b.x + b.vx) = q at *
  have pC := Lib.hid (fun w => clamp_any w q 0 13107200)
  obtain ⟨c, hc⟩ : ∃ c, clampV q 0 13107200 = c := ⟨_, rfl⟩
  rw [hc] at HF pC
  clear hc
  go_enter Try.func75, Try.ntmps75
  go_upto_region 0 with fail
  go_quiet (exact pA.out _)
  go_wp2_with fail
  refine (pC.out _).mono ?_
  rintro e w' ⟨rfl, rfl⟩
  by_cases h : c = q
  · subst h
    have HF2 := HF.out
    rw [if_pos rfl] at HF2
    have HF3 := Lib.hid HF2
    clear HF2 HF
    go_wp2_with fail
    go_end0
    exact ⟨rfl, by rw [HF3.out]; exact (HS.out.drewN nq).x HI.out _, TG.set ((Touch.refl _ _).drewN nq) _ _⟩
  · have h' : (c == q) = false := by simpa using h
    have HF2 := HF.out
    rw [if_neg h] at HF2
    have HF3 := Lib.hid HF2
    clear HF2 HF h
    go_wp2_with fail
    go_end0
    exact ⟨rfl, by rw [HF3.out]; exact ((HS.out.drewN nq).x HI.out _).vx HI.out _, TG.set (TG.set ((Touch.refl _ _).drewN nq) _ _) _ _⟩
set_option maxHeartbeats 1000000 in
theorem born_any (w : World) (i : Nat) (hi : i < 2) :
    Calls Try.prog 72 #[.int .i64 i] w fun e w' => e = .returned (bodV (bornB i)) ∧ Below w.heap.size w w' := by
  have e : i = 0 ∨ i = 1 := by omega
  rcases e with rfl | rfl
  all_goals
    clear hi
    go_enter Try.func72, Try.ntmps72
    go_wp2_with fail
    refine bodyPost_ret (v := bodV (bornB _)) (by simp [results, Try.results72, go_sem, bodV, bodL, bornB]) rfl ⟨rfl, ?_⟩
    repeat (refine Below.setCell ?_ (by simp) _)
    exact ((Below.refl _ _).alloc (Nat.le_refl _) _).alloc (by simp) _

set_option maxHeartbeats 1000000 in
theorem hits_any (w : World) (s : Shot) (b : Body) (sx0 : -9223372036854775808 ≤ s.x) (sx1 : s.x ≤ 9223372036854775807) (sy0 : -9223372036854775808 ≤ s.y) (sy1 : s.y ≤ 9223372036854775807) (hb : BodyOk b) :
    Calls Try.prog 105 #[shoV s, bodV b] w fun e w' => e = .returned (.bool (hitsV s b)) ∧ Below w.heap.size w w' := by
  have x0 := hb.x0
  have x1 := hb.x1
  have y0 := hb.y0
  have y1 := hb.y1
  have HH := Lib.hid (show hitsV s b = (nearV s.x b.x 262144 && nearV s.y (hold (b.y + 65536)) 393216) from rfl)
  have hh := hold_bd (b.y + 65536)
  obtain ⟨W1, hW1, HBW⟩ : ∃ W1, W1 = (w.alloc (.cells (shoL s).toArray 27)).alloc (.cells (bodL b).toArray 24) ∧ Below w.heap.size w W1 := ⟨_, rfl, ((Below.refl _ _).alloc (Nat.le_refl _) _).alloc (by simp) _⟩
  have k1 : W1.cell? ⟨w.heap.size, 1, none⟩ = some (.int .i64 s.x) := by rw [hW1]; exact ((Blk.new w 27 (shoL s).toArray).alloc _).cell 1
  have k2 : W1.cell? ⟨w.heap.size, 2, none⟩ = some (.int .i64 s.y) := by rw [hW1]; exact ((Blk.new w 27 (shoL s).toArray).alloc _).cell 2
  have b0 : W1.cell? ⟨w.heap.size + 1, 0, none⟩ = some (.int .i64 b.x) := by rw [hW1]; have := (Blk.new (w.alloc (.cells (shoL s).toArray 27)) 24 (bodL b).toArray).cell 0; simpa [bodL] using this
  have b1 : W1.cell? ⟨w.heap.size + 1, 1, none⟩ = some (.int .i64 b.y) := by rw [hW1]; have := (Blk.new (w.alloc (.cells (shoL s).toArray 27)) 24 (bodL b).toArray).cell 1; simpa [bodL] using this
  have p1 := Lib.hid (fun n => (near_any (W1.drewN n) s.x b.x 262144 (by omega) (by omega) (by omega) (by omega) (by omega)).mono (R' := fun e w'' => e = .returned (.bool (nearV s.x b.x 262144)) ∧ ∃ m, w'' = W1.drewN m) (fun _ _ h => ⟨h.1, _, h.2.symm⟩))
  have p2 := Lib.hid (fun n => (wadd_any (W1.drewN n) b.y 65536 (by omega) (by omega) (by omega) (by omega)).mono (R' := fun e w'' => e = .returned (.int .i64 (hold (b.y + 65536))) ∧ ∃ m, w'' = W1.drewN m) (fun _ _ h => ⟨h.1, _, h.2.symm⟩))
  have p3 := Lib.hid (fun n => (near_any (W1.drewN n) s.y (hold (b.y + 65536)) 393216 (by omega) (by omega) (by omega) (by omega) (by omega)).mono (R' := fun e w'' => e = .returned (.bool (nearV s.y (hold (b.y + 65536)) 393216)) ∧ ∃ m, w'' = W1.drewN m) (fun _ _ h => ⟨h.1, _, h.2.symm⟩))
  generalize hold (b.y + 65536) = q at *
  generalize nearV s.x b.x 262144 = n1 at *
  generalize nearV s.y q 393216 = n2 at *
  unfold shoV bodV
  unfold shoL bodL at hW1 ⊢
  clear hb
  cases n1
  · go_enter Try.func105, Try.ntmps105
    go_upto_region 1 with fail
    rw [← hW1]
    clear hW1
    go_quiet (exact p1.out _)
    go_wp2_with fail
    go_ret
    exact ⟨ret_bool (by rw [HH.out]; rfl), below_drewN HBW _⟩
  · go_enter Try.func105, Try.ntmps105
    go_upto_region 1 with fail
    rw [← hW1]
    clear hW1
    go_quiet ((first | (go_at_call 103; exact p2.out _) | (go_at_call_of 126 (Value.int IntKind.i64 262144); exact p1.out _) | (go_at_call_of 126 (Value.int IntKind.i64 393216); exact p3.out _)))
    go_wp2_with fail
    go_ret
    exact ⟨ret_bool (by rw [HH.out]; cases n2 <;> rfl), below_drewN HBW _⟩
end Go.Proofs.Ytlhoffhagfhbcaa.Gm
namespace Go.Proofs.Ytlhoffhagfhbcaa.Gm
open Go.RowKit Go.Proofs.Ytlhoffhagfhbcaa.Num
set_option linter.all false

theorem infoS : (Try.prog.info? 27).map (·.size) = some 6 := by kernel_rfl
theorem infoB : (Try.prog.info? 24).map (·.size) = some 7 := by kernel_rfl
theorem shoL_one (s : Shot) : (shoL s).toArray.all (·.oneCell') = true := by simp [shoL, Value.oneCell']
theorem bodL_one (b : Body) : (bodL b).toArray.all (·.oneCell') = true := by simp [bodL, Value.oneCell']

set_option maxRecDepth 100000 in
set_option maxHeartbeats 4000000 in
theorem fire_any (w : World) (g : Nat) (t : TypeId) (f : F) (i n : Nat) (hi : i < 2) (hn : n < 65536) (hS : SB w g t f) (hb : BodyOk (bod f (2 + i * 7))) :
    Calls Try.prog 76 #[.pointer (some ⟨g, 0, none⟩), .int .i64 i, .int .u16 n] w fun e w' => e = .returned (.tuple #[]) ∧ SB w' g t (fireF f i n) ∧ TG g w w' := by
  have a16 := and16 hn
  obtain ⟨x, y, c, fc⟩ : ∃ x : Unit, ∃ y : Unit, ∃ c : Unit, True := ⟨(), (), (), trivial⟩
  clear x y c fc
  have hc0 := hb.c0
  have hc1 := hb.c1
  have hy0 := hb.y0
  have hy1 := hb.y1
  obtain ⟨cx, cy, -, -, -, cc, cf, fr⟩ := hS.bodyAt hi
  have HF := Lib.hid (show fireF f i n = if 0 < (bod f (2 + i * 7)).cool then put f (2 + i * 7 + 5) ((bod f (2 + i * 7)).cool - 1)
    else if n / 16 % 2 = 1 ∧ freeK f < 8 then put (setS f (16 + freeK f * 6) (shotOf (bod f (2 + i * 7)) i)) (2 + i * 7 + 5) 15 else f from rfl)
  have fcool := fr (2 + i * 7 + 5)
  have HS := Lib.hid hS
  have HI := Lib.hid hi
  have i1 : (0 : Int) ≤ (i : Int) := by omega
  have i2 : (i : Int) < 2 := by omega
  obtain ⟨b, hbb⟩ : ∃ b, bod f (2 + i * 7) = b := ⟨_, rfl⟩
  rw [hbb] at hc0 hc1 hy0 hy1 cx cy cc cf HF
  clear hS hb hi fr hbb
  by_cases h : 0 < b.cool
  · have HF2 := HF.out
    rw [if_pos h] at HF2
    have HF3 := Lib.hid HF2
    clear HF2 HF a16 cx cy cf
    go_enter Try.func76, Try.ntmps76
    go_wp2_with fail
    refine bodyPost_ret (results_none rfl _ _ _) rfl ⟨rfl, ?_, ?_⟩
    · rw [HF3.out]
      have := HI.out
      exact HS.out.setInt (by omega) (by omega) (by omega) _
    · exact TG.set (Touch.refl _ _) _ _
  · have HF2 := HF.out
    rw [if_neg h] at HF2
    have HF3 := Lib.hid HF2
    clear HF2 HF
    have hbt : n / 16 % 2 = 1 ∨ n / 16 % 2 = 0 := by omega
    rcases hbt with hbt | hbt
    · rw [hbt] at a16 HF3
      simp only [Nat.zero_mul, Nat.one_mul] at a16
      have a16' : bits .and .u16 (n : Int) 16 = _ := a16
      clear a16 hbt
      have hh := clampV_in b.facing (a := -1) (b := 1) (by omega)
      have HSh := Lib.hid (show shotOf b i = ⟨1, b.x, hold (b.y + 65536), clampV b.facing (-1) 1 * 393216, i, 60⟩ from rfl)
      have pA := Lib.hid (fun W => (wadd_any W b.y 65536 (by omega) (by omega) (by omega) (by omega)).mono (R' := fun e w'' => e = .returned (.int .i64 (hold (b.y + 65536))) ∧ w'' = W) (fun _ _ h => ⟨h.1, h.2.symm⟩))
      have pC := Lib.hid (fun W => (clamp_any W b.facing (-1) 1).mono (R' := fun e w'' => e = .returned (.int .i64 (clampV b.facing (-1) 1)) ∧ w'' = W) (fun _ _ h => ⟨h.1, h.2.symm⟩))
      generalize hold (b.y + 65536) = yv at *
      generalize clampV b.facing (-1) 1 = cl at *
      have q1 : IntKind.i64.wrap (cl * 393216) = cl * 393216 := IntWalk.i64_in _ (by omega)
      clear hc0 hc1
      go_enter Try.func76, Try.ntmps76
      go_wp2_with fail
      go_loopw [28] (fun kv wr => ∃ k : Nat, k ≤ 8 ∧ kv = .int .i64 k ∧ (∀ j, j < k → f (16 + j * 6) ≠ 0) ∧ wr = w) (fun kv _ => 8 - (intOf kv).toNat)
      case atStart => exact ⟨0, by omega, rfl, fun j hj => by omega, by first | trivial | rfl⟩
      case round =>
        obtain ⟨k, hk, rfl, hall, rfl⟩ := hrel
        by_cases hlt : k < 8
        · have k1 : (0 : Int) ≤ (k : Int) := by omega
          have k2 : (k : Int) < 8 := by omega
          have con := HS.out.on hlt
          by_cases hon : f (16 + k * 6) = 0
          · rw [onB_no hon] at con
            have hfree : freeK f = k := freeK_eq f k hk hall (fun _ => hon)
            have HF4 := HF3.out
            rw [hfree, if_pos ⟨by first | trivial | rfl, hlt⟩] at HF4
            have HF5 := Lib.hid HF4
            have HK := Lib.hid hlt
            have ht := HS.out.drew.there (o := 16 + k * 6) (n := 6) (by omega)
            clear HF4 HF3 hfree hon hall hlt
            go_upto_region 8 with fail
            refine wp_region_still_tail 22 (by kernel_rfl) (by kernel_rfl) ?_
            simp only [List.take_succ_cons, List.take_zero, List.drop_succ_cons, List.drop_zero]
            iterate 10 still_step
            still_call (pA.out _)
            iterate 4 still_step
            still_call (pC.out _)
            iterate 6 still_step
            refine wpStill_nil ?_
            change wpList _ _ _ _ _ (World.drew _)
            have HS2 := HS.out.drew.setShot HK.out (shotOf b i)
            have T2 : TG g wr (wr.drew.setCells g (16 + k * 6) (shoL (shotOf b i))) := touch_cells (S := fun k => k = g) (Touch.refl _ _).drew g (.inl rfl) _ _
            refine wpList_store_mid (by rfl) 27 _ _ (by rfl) g (16 + k * 6) #[.bool true, .int .i64 b.x, .int .i64 yv, .int .i64 (cl * 393216), .int .i64 i, .int .i64 60] (by rfl) (by rfl) ht infoS (by simp [Value.oneCell']) ?_
            rw [HSh.out] at HS2 T2
            change wpList _ _ _ _ _ (World.setCells (World.drew _) g (16 + k * 6) (shoL ⟨1, b.x, yv, cl * 393216, i, 60⟩))
            rw [HSh.out] at HF5
            generalize wr.drew.setCells g (16 + k * 6) (shoL ⟨1, b.x, yv, cl * 393216, i, 60⟩) = W2 at *
            have hi3 := HI.out
            have c5 := HS2.int (j := 2 + i * 7 + 5) (by omega) (by omega) (by omega)
            have f5 := HS2.fr (2 + i * 7 + 5)
            have R := HS2.setInt (j := 2 + i * 7 + 5) (by omega) (by omega) (by omega) 15
            have RT := TG.set T2 (2 + i * 7 + 5) (.int .i64 15)
            clear hi3 HS2 T2 con ht q1 pA pC
            go_wp2_with fail
            refine bodyPost_ret (results_none rfl _ _ _) rfl ⟨rfl, ?_, ?_⟩
            · rw [HF5.out]
              with_reducible exact R
            · with_reducible exact RT
          · rw [onB_yes hon] at con
            have HALL := Lib.hid (show ∀ j, j < k + 1 → f (16 + j * 6) ≠ 0 from fun j hj => by
              by_cases e : j = k
              · subst e; exact hon
              · exact hall j (by omega))
            clear hall hon
            go_wp2_with fail
            go_roundw
            case rel => exact ⟨k + 1, by omega, by go_num, HALL.out, by first | trivial | rfl⟩
            case measure => simp [intOf]; omega
        · obtain rfl : k = 8 := by omega
          have HF4 := HF3.out
          rw [if_neg (fun h => by have := freeK_free f h.2; exact hall _ h.2 this)] at HF4
          have HF5 := Lib.hid HF4
          clear HF4 hall
          go_wp2_with fail
          go_end0
          exact ⟨rfl, by rw [HF5.out]; exact HS.out, Touch.refl _ _⟩
    · rw [hbt] at a16 HF3
      simp only [Nat.zero_mul, Nat.one_mul] at a16
      have a16' : bits .and .u16 (n : Int) 16 = _ := a16
      have HF4 := HF3.out
      rw [if_neg (by omega)] at HF4
      have HF5 := Lib.hid HF4
      clear HF4 HF3 a16 hbt
      go_enter Try.func76, Try.ntmps76
      go_wp2_with fail
      refine bodyPost_ret (results_none rfl _ _ _) rfl ⟨rfl, ?_, Touch.refl _ _⟩
      rw [HF5.out]
      exact HS.out
end Go.Proofs.Ytlhoffhagfhbcaa.Gm
namespace Go.Proofs.Ytlhoffhagfhbcaa.Gm
open Go.RowKit Go.Proofs.Ytlhoffhagfhbcaa.Num
set_option linter.all false

theorem setB_life (f : F) (o : Nat) (l v : Int) (b : Body) {s : Nat} (h : s < o ∨ o + 7 ≤ s) : setB (put (put f (o + 4) l) s v) o b = setB (put f s v) o b := by
  funext k
  unfold setB put
  (repeat' split) <;> (first | rfl | omega)

set_option maxRecDepth 100000 in
set_option maxHeartbeats 4000000 in
theorem hurt_any (w : World) (g : Nat) (t : TypeId) (f : F) (who n : Nat) (hw : who < 2) (hn : n < 65536) (hS : SB w g t f) (hb : BodyOk (bod f (2 + who * 7))) (s0 : 0 ≤ f 1) (s1 : f 1 < 4294967296) (q0 : 0 ≤ f (64 + (1 - who))) (q1 : f (64 + (1 - who)) ≤ 4611686018427387904) :
    Calls Try.prog 106 #[.pointer (some ⟨g, 0, none⟩), .int .i64 who, .int .u16 n] w fun e w' => e = .returned (.tuple #[]) ∧ SB w' g t (hurtF f who n) ∧ TG g w w' := by
  have a32 := and32 hn
  have l0 := hb.l0
  have l1 := hb.l1
  have hpn := painV_in s0 n
  obtain ⟨-, -, -, -, cl, -, -, fr⟩ := hS.bodyAt hw
  have fl := fr (2 + who * 7 + 4)
  have csd := hS.seed
  have i1 : (0 : Int) ≤ (who : Int) := by omega
  have i2 : (who : Int) < 2 := by omega
  obtain ⟨v, hv⟩ : ∃ v, 1 - who = v := ⟨_, rfl⟩
  have hv1 : (1 : Int) - (who : Int) = (v : Int) := by omega
  have hv2 : v < 2 := by omega
  have HF := Lib.hid (show hurtF f who n = if 0 < (bod f (2 + who * 7)).life - painV (f 1) n then put f (2 + who * 7 + 4) ((bod f (2 + who * 7)).life - painV (f 1) n)
    else setB (put f (64 + (1 - who)) (f (64 + (1 - who)) + 1)) (2 + who * 7) (bornB who) from rfl)
  rw [hv] at HF q0 q1
  have pB := Lib.hid (fun W => born_any W who hw)
  have HS := Lib.hid hS
  have HW := Lib.hid hw
  obtain ⟨b, hbb⟩ : ∃ b, bod f (2 + who * 7) = b := ⟨_, rfl⟩
  rw [hbb] at l0 l1 cl HF
  obtain ⟨sd, hsd⟩ : ∃ sd, f 1 = sd := ⟨_, rfl⟩
  rw [hsd] at s0 s1 csd HF hpn
  clear hbb hS hb fr hsd hv
  have hbt : n / 32 % 2 = 1 ∨ n / 32 % 2 = 0 := by omega
  rcases hbt with hbt | hbt
  · rw [hbt] at a32
    simp only [Nat.zero_mul, Nat.one_mul] at a32
    have a32' : bits .and .u16 (n : Int) 32 = _ := a32
    obtain ⟨m, hm⟩ : ∃ m : Nat, sd / 65536 = (m : Int) := ⟨(sd / 65536).toNat, by omega⟩
    have hm1 : m < 65536 := by omega
    rw [show painV sd n = 4 + (m : Int) % 3 by unfold painV; rw [if_pos hbt, hm]] at HF hpn
    have HM := Lib.hid hpn
    clear a32 hbt hw
    go_enter Try.func106, Try.ntmps106
    go_upto_region 3 with fail
    generalize hp : (4 + (m : Int) % 3) = p at *
    have hp2 := HM.out
    clear hp HM hm
    have R1 := HS.out.setInt (j := 2 + who * 7 + 4) (by have := HW.out; omega) (by omega) (by have := HW.out; omega) (b.life - p)
    have RT1 := TG.set (show TG g w w from Touch.refl _ w) (2 + who * 7 + 4) (.int .i64 (b.life - p))
    have hq : 1 ≤ p ∧ p ≤ 10 := hp2
    · skip
      go_upto_region 5 with fail
      by_cases hl : 0 < b.life - p
      · have HF2 := HF.out
        rw [if_pos hl] at HF2
        have HF3 := Lib.hid HF2
        clear HF2 HF
        go_upto_region 5 with fail
        go_wp2_with fail
        refine bodyPost_ret (results_none rfl _ _ _) rfl ⟨rfl, ?_, RT1⟩
        rw [HF3.out]
        exact R1
      · have HF2 := HF.out
        rw [if_neg hl] at HF2
        have HF3 := Lib.hid HF2
        clear HF2 HF
        go_upto_region 6 with fail
        generalize w.setCell ⟨g, 2 + who * 7 + 4, none⟩ (.int .i64 (b.life - p)) = W1 at *
        have s1 := R1.score hv2
        rw [put_ne _ _ (by omega)] at s1
        have sf := R1.fr (64 + v)
        have hv3 : (0 : Int) ≤ (v : Int) := by omega
        have hv4 : (v : Int) < 2 := by omega
        have R2 := R1.setInt (j := 64 + v) (by omega) (by omega) (by omega) (f (64 + v) + 1)
        have RT2 := TG.set RT1 (64 + v) (.int .i64 (f (64 + v) + 1))
        clear R1 RT1
        go_region
        all_goals
          go_wp2_with fail
          refine (pB.out _).mono ?_
          rintro e w3 ⟨rfl, hb3⟩
          have R3 := R2.drew.below hb3 R2.lt
          have RT3 : TG g w w3 := RT2.drew.trans (Touch.of_below hb3 : TG g _ _) (fun k hk => .inl hk)
          have ht := R3.there (o := 2 + who * 7) (n := 7) (by omega)
          have R4 := R3.setBody HW.out (bornB who)
          have RT4 := touch_cells (S := fun k => k = g) RT3 g (.inl rfl) (bodL (bornB who)) (2 + who * 7)
          rw [setB_life _ _ _ _ _ (by omega)] at R4
          clear R2 RT2 R3 RT3
          go_wp2_with (refine wpList_store_mid (by rfl) 24 _ _ (by rfl) g (2 + who * 7) (bodL (bornB who)).toArray (by rfl) (by rfl) ht infoB (bodL_one _) ?_)
          go_end0
          exact ⟨rfl, by rw [HF3.out]; exact R4, RT4⟩
  · rw [hbt] at a32
    simp only [Nat.zero_mul, Nat.one_mul] at a32
    have a32' : bits .and .u16 (n : Int) 32 = _ := a32
    rw [show painV sd n = 10 by unfold painV; rw [if_neg (by omega)]] at HF hpn
    clear a32 hbt hw
    have R1 := HS.out.setInt (j := 2 + who * 7 + 4) (by have := HW.out; omega) (by omega) (by have := HW.out; omega) (b.life - 10)
    have RT1 := TG.set (show TG g w w from Touch.refl _ w) (2 + who * 7 + 4) (.int .i64 (b.life - 10))
    go_enter Try.func106, Try.ntmps106
    · skip
      go_upto_region 5 with fail
      by_cases hl : 0 < b.life - 10
      · have HF2 := HF.out
        rw [if_pos hl] at HF2
        have HF3 := Lib.hid HF2
        clear HF2 HF
        go_upto_region 5 with fail
        go_wp2_with fail
        refine bodyPost_ret (results_none rfl _ _ _) rfl ⟨rfl, ?_, RT1⟩
        rw [HF3.out]
        exact R1
      · have HF2 := HF.out
        rw [if_neg hl] at HF2
        have HF3 := Lib.hid HF2
        clear HF2 HF
        go_upto_region 6 with fail
        generalize w.setCell ⟨g, 2 + who * 7 + 4, none⟩ (.int .i64 (b.life - 10)) = W1 at *
        have s1 := R1.score hv2
        rw [put_ne _ _ (by omega)] at s1
        have sf := R1.fr (64 + v)
        have hv3 : (0 : Int) ≤ (v : Int) := by omega
        have hv4 : (v : Int) < 2 := by omega
        have R2 := R1.setInt (j := 64 + v) (by omega) (by omega) (by omega) (f (64 + v) + 1)
        have RT2 := TG.set RT1 (64 + v) (.int .i64 (f (64 + v) + 1))
        clear R1 RT1
        go_region
        all_goals
          go_wp2_with fail
          refine (pB.out _).mono ?_
          rintro e w3 ⟨rfl, hb3⟩
          have R3 := R2.drew.below hb3 R2.lt
          have RT3 : TG g w w3 := RT2.drew.trans (Touch.of_below hb3 : TG g _ _) (fun k hk => .inl hk)
          have ht := R3.there (o := 2 + who * 7) (n := 7) (by omega)
          have R4 := R3.setBody HW.out (bornB who)
          have RT4 := touch_cells (S := fun k => k = g) RT3 g (.inl rfl) (bodL (bornB who)) (2 + who * 7)
          rw [setB_life _ _ _ _ _ (by omega)] at R4
          clear R2 RT2 R3 RT3
          go_wp2_with (refine wpList_store_mid (by rfl) 24 _ _ (by rfl) g (2 + who * 7) (bodL (bornB who)).toArray (by rfl) (by rfl) ht infoB (bodL_one _) ?_)
          go_end0
          exact ⟨rfl, by rw [HF3.out]; exact R4, RT4⟩
end Go.Proofs.Ytlhoffhagfhbcaa.Gm
namespace Go.Proofs.Ytlhoffhagfhbcaa.Gm
open Go.RowKit Go.Sort Go.Proofs.Ytlhoffhagfhbcaa.Num
set_option linter.all false

/-- A shot's cells. -/
structure ShotAt (w : World) (g o : Nat) (s : Shot) : Prop where
  on : w.cell? ⟨g, o, none⟩ = some (.bool (onB s.on))
  x : w.cell? ⟨g, o + 1, none⟩ = some (.int .i64 s.x)
  y : w.cell? ⟨g, o + 2, none⟩ = some (.int .i64 s.y)
  vx : w.cell? ⟨g, o + 3, none⟩ = some (.int .i64 s.vx)
  ow : w.cell? ⟨g, o + 4, none⟩ = some (.int .i64 s.owner)
  frames : w.cell? ⟨g, o + 5, none⟩ = some (.int .i64 s.frames)
  fr : ∀ j, w.frozen? ⟨g, j, none⟩ = false
theorem SB.shotAt {w : World} {g : Nat} {t : TypeId} {f : F} (h : SB w g t f) {k : Nat} (hk : k < 8) : ShotAt w g (16 + k * 6) (sho f (16 + k * 6)) :=
  ⟨h.on hk, h.shot hk (j := 1) (by omega) (by omega), h.shot hk (j := 2) (by omega) (by omega), h.shot hk (j := 3) (by omega) (by omega), h.shot hk (j := 4) (by omega) (by omega), h.shot hk (j := 5) (by omega) (by omega), fun j => h.fr j⟩
def SS (w : World) (g : Nat) (t : TypeId) (f : F) (k : Nat) (s : Shot) : Prop := SB w g t (setS f (16 + k * 6) s)
theorem setS_same (f : F) (o : Nat) : setS f o (sho f o) = f := by
  funext k
  unfold setS sho put
  (repeat' split) <;> (first | rfl | (subst_vars; rfl))
theorem setS_setS (f : F) (o : Nat) (s s2 : Shot) : setS (setS f o s) o s2 = setS f o s2 := by
  funext k
  unfold setS put
  (repeat' split) <;> (first | rfl | omega)
section
variable {w w' : World} {g : Nat} {t : TypeId} {f : F} {k : Nat} {s : Shot}
theorem SS.of (h : SB w g t f) (k : Nat) : SS w g t f k (sho f (16 + k * 6)) := by unfold SS; rw [setS_same]; exact h
theorem SS.cells (h : SS w g t f k s) (hk : k < 8) : ShotAt w g (16 + k * 6) s := by
  have := SB.shotAt h hk
  rwa [setS_sho] at this
theorem SS.drew (h : SS w g t f k s) : SS w.drew g t f k s := h
theorem SS.x (h : SS w g t f k s) (hk : k < 8) (v : Int) : SS (w.setCell ⟨g, 16 + k * 6 + 1, none⟩ (.int .i64 v)) g t f k { s with x := v } := by
  have := SB.setInt h (j := 16 + k * 6 + 1) (by omega) (by omega) (by omega) v
  unfold SS
  have e : put (setS f (16 + k * 6) s) (16 + k * 6 + 1) v = setS f (16 + k * 6) { s with x := v } := by
    funext k; unfold setS put; (repeat' split) <;> (first | rfl | omega)
  rwa [e] at this
theorem SS.frames (h : SS w g t f k s) (hk : k < 8) (v : Int) : SS (w.setCell ⟨g, 16 + k * 6 + 5, none⟩ (.int .i64 v)) g t f k { s with frames := v } := by
  have := SB.setInt h (j := 16 + k * 6 + 5) (by omega) (by omega) (by omega) v
  unfold SS
  have e : put (setS f (16 + k * 6) s) (16 + k * 6 + 5) v = setS f (16 + k * 6) { s with frames := v } := by
    funext k; unfold setS put; (repeat' split) <;> (first | rfl | omega)
  rwa [e] at this
theorem SS.shot (h : SS w g t f k s) (hk : k < 8) (s2 : Shot) : SB (w.setCells g (16 + k * 6) (shoL s2)) g t (setS f (16 + k * 6) s2) := by
  have := SB.setShot h hk s2
  rwa [setS_setS] at this
end
/-- A contract that leaves what lay, in a world of the class. -/
theorem regrown {P : Program} {f : FuncId} {args : Array Value} {v : Value} (w : World)
    (h : ∀ W, Below w.heap.size w W → Calls P f args W fun e W' => e = .returned v ∧ Below W.heap.size W W') (d : Nat) (os : Array Obj) :
    Calls P f args (grow (redrawn w d) os) fun e w'' => e = .returned v ∧ ∃ p : Regrown, w'' = grow (redrawn w p.d) p.os := Calls.regrown_of (h _ (below_regrown w d os))

/-- Both players' buttons. -/
def inV (n : Nat → Nat) : Value := .agg #[.int .u16 (n 0), .int .u16 (n 1)]

set_option maxRecDepth 100000 in
set_option maxHeartbeats 8000000 in
theorem fly_any (w : World) (g : Nat) (t : TypeId) (f : F) (fr sc : Int) (k : Nat) (n : Nat → Nat) (hk : k < 8) (hn : ∀ i, i < 2 → n i < 65536) (hS : SB w g t f) (hI : Inv fr sc f) (hsc : sc ≤ 4611686018427387904) (hon : f (16 + k * 6) ≠ 0) :
    Calls Try.prog 77 #[.pointer (some ⟨g, 0, none⟩), .int .i64 k, inV n] w fun e w' => e = .returned (.tuple #[]) ∧ SB w' g t (flyF f k n) ∧ TG g w w' := by
  obtain ⟨s0, hs0⟩ : ∃ s, s = sho f (16 + k * 6) := ⟨_, rfl⟩
  have hin : ShotIn s0 := by rw [hs0]; exact (hI.s k hk).resolve_left fun e => hon (congrArg Shot.on e)
  have x0 := hin.x0
  have x1 := hin.x1
  have vx : -393216 ≤ s0.vx ∧ s0.vx ≤ 393216 := by rcases hin.vx with e | e <;> omega
  have r0 := hin.f0
  have r1 := hin.f1
  have y0 := hin.y0
  have y1 := hin.y1
  have HF := Lib.hid (show flyF f k n = if goneV (flown (sho f (16 + k * 6))) then setS f (16 + k * 6) zeroS
    else if hitsV (flown (sho f (16 + k * 6))) (bod f (2 + whoV (flown (sho f (16 + k * 6))) * 7)) then hurtF (setS f (16 + k * 6) zeroS) (whoV (flown (sho f (16 + k * 6)))) (n (whoV (flown (sho f (16 + k * 6)))))
    else setS f (16 + k * 6) (flown (sho f (16 + k * 6))) from rfl)
  rw [← hs0] at HF
  have hh := hold_bd (s0.x + s0.vx)
  have HFL := Lib.hid (show flown s0 = { s0 with x := hold (s0.x + s0.vx), frames := s0.frames - 1 } from rfl)
  have hwl := whoV_lt (flown s0)
  obtain ⟨oz, hoz⟩ : ∃ oz, bits BinOp.and .i64 s0.owner 1 = oz := ⟨_, rfl⟩
  have how : 1 - oz = (whoV (flown s0) : Int) := by
    rw [← hoz]
    show 1 - bits BinOp.and .i64 s0.owner 1 = ((if s0.owner % 2 = 0 then 1 else 0 : Nat) : Int)
    rcases hin.ow with e | e
    · rw [e]; decide +kernel
    · rw [e]; decide +kernel
  have H0 : SS w g t f k s0 := by rw [hs0]; exact SS.of hS k
  have hz := hI.setS hk (.inl rfl : ShotOk zeroS)
  obtain ⟨who, hwho⟩ : ∃ who, whoV (flown s0) = who := ⟨_, rfl⟩
  rw [hwho] at HF hwl how
  have hbk := hI.b who hwl
  have hz2 := hz.b who hwl
  have hzs0 := hz.seed0
  have hzs1 := hz.seed1
  have hzq : 0 ≤ (setS f (16 + k * 6) zeroS) (64 + (1 - who)) ∧ (setS f (16 + k * 6) zeroS) (64 + (1 - who)) ≤ sc := by
    have : 1 - who = 0 ∨ 1 - who = 1 := by omega
    rcases this with e | e <;> rw [e]
    · exact ⟨hz.p0, hz.p1⟩
    · exact ⟨hz.q0, hz.q1⟩
  have pHurt := Lib.hid (fun W (hW : SB W g t (setS f (16 + k * 6) zeroS)) => hurt_any W g t (setS f (16 + k * 6) zeroS) who (n who) hwl (hn who hwl) hW hz2 hzs0 hzs1 hzq.1 (by omega))
  have pHits := Lib.hid (fun W (s : Shot) (a1 : -9223372036854775808 ≤ s.x) (a2 : s.x ≤ 9223372036854775807) (a3 : -9223372036854775808 ≤ s.y) (a4 : s.y ≤ 9223372036854775807) => hits_any W s (bod f (2 + who * 7)) a1 a2 a3 a4 hbk)
  have HK := Lib.hid hk
  have HW := Lib.hid hwl
  have k1 : (0 : Int) ≤ (k : Int) := by omega
  have k2 : (k : Int) < 8 := by omega
  have w1 : (0 : Int) ≤ (who : Int) := by omega
  have w2 : (who : Int) < 2 := by omega
  -- the box
  obtain ⟨W1, hW1⟩ : ∃ W1, W1 = w.alloc (.cells #[.int .u16 (n 0), .int .u16 (n 1)] 69) := ⟨_, rfl⟩
  have hbx : Blk W1 w.heap.size 69 #[.int .u16 (n 0), .int .u16 (n 1)] := by rw [hW1]; exact Blk.new _ _ _
  have H1 : SS W1 g t f k s0 := by rw [hW1]; exact SB.alloc H0 _
  have T1 : TG g w W1 := by rw [hW1]; exact (Touch.refl _ w).alloc _
  have hgx : g ≠ w.heap.size := by have := hS.lt; omega
  have cbx : ∀ W, Blk W w.heap.size 69 #[.int .u16 (n 0), .int .u16 (n 1)] → W.cell? ⟨w.heap.size, who, none⟩ = some (.int .u16 (n who)) := by
    intro W hW
    have := hW.cell who
    rw [this]
    have e : who = 0 ∨ who = 1 := by omega
    rcases e with rfl | rfl <;> rfl
  have CBX := Lib.hid cbx
  clear hS hI hon hk hn hin hs0 H0 hz hbk hz2 hzs0 hzs1 hzq hwho hwl cbx hsc
  unfold inV
  obtain ⟨con, cx, -, cv, -, cfr, ffr⟩ := H1.cells HK.out
  have f1 := ffr (16 + k * 6 + 1)
  have pA := Lib.hid (fun W => (wadd_any W s0.x s0.vx (by omega) (by omega) (by omega) (by omega)).mono (R' := fun e w'' => e = .returned (.int .i64 (hold (s0.x + s0.vx))) ∧ w'' = W) (fun _ _ h => ⟨h.1, h.2.symm⟩))
  generalize hold (s0.x + s0.vx) = xv at *
  go_enter Try.func77, Try.ntmps77
  go_upto_region 1 with fail
  rw [← hW1]
  clear hW1
  go_upto_region 2 with fail
  refine wp_region_still_tail 12 (by kernel_rfl) (by kernel_rfl) ?_
  simp only [List.take_succ_cons, List.take_zero, List.drop_succ_cons, List.drop_zero]
  iterate 9 still_step
  still_call (pA.out _)
  iterate 2 still_step
  refine wpStill_nil ?_
  change wpList _ _ _ _ _ (World.drew _)
  have H2 := (H1.x HK.out xv).drew
  have T2 := (TG.set T1 (16 + k * 6 + 1) (.int .i64 xv)).drew
  have hbx2 := (hbx.far (p := ⟨g, 16 + k * 6 + 1, none⟩) (fun e => hgx e.symm) (.int .i64 xv)).drew
  clear con cv pA H1 T1 hbx
  go_upto_region 3 with fail
  clear cx f1 cfr ffr
  generalize (W1.setCell ⟨g, 16 + k * 6 + 1, none⟩ (.int .i64 xv)).drew = W2 at *
  obtain ⟨con, cx, -, cv, cow, cfr, ffr⟩ := H2.cells HK.out
  have f5 := ffr (16 + k * 6 + 5)
  have H3 := H2.frames HK.out (s0.frames - 1)
  have T3 := TG.set T2 (16 + k * 6 + 5) (.int .i64 (s0.frames - 1))
  have hbx3 := hbx2.far (p := ⟨g, 16 + k * 6 + 5, none⟩) (fun e => hgx e.symm) (.int .i64 (s0.frames - 1))
  clear H2 T2 hbx2 ffr
  go_upto_region 4 with fail
  clear con cx cv cow cfr f5
  generalize W2.setCell ⟨g, 16 + k * 6 + 5, none⟩ (.int .i64 (s0.frames - 1)) = W3 at *
  have HFL2 := HFL.out
  have H3' : SS W3 g t f k (flown s0) := by rw [HFL2]; exact H3
  clear H3 HFL2
  have hsx : (flown s0).x = xv := by rw [HFL.out]
  have hsf : (flown s0).frames = s0.frames - 1 := by rw [HFL.out]
  have hso : (flown s0).owner = s0.owner := by rw [HFL.out]
  have hsy : (flown s0).y = s0.y := by rw [HFL.out]
  rw [← hso] at hoz
  have hx2 : -9223372036854775808 ≤ (flown s0).x ∧ (flown s0).x ≤ 9223372036854775807 := by omega
  have hy2 : -9223372036854775808 ≤ (flown s0).y ∧ (flown s0).y ≤ 9223372036854775807 := by omega
  clear hsx hsf hso hsy x0 x1 vx r0 r1 y0 y1 hh HFL
  generalize flown s0 = s at *
  obtain ⟨con, cx, -, -, cow, cfr, -⟩ := H3'.cells HK.out
  by_cases c1 : s.frames ≤ 0
  · have c1' : decide (s.frames ≤ 0) = true := by simpa using c1
    have HF2 := HF.out
    rw [if_pos (show goneV s = true by simp [goneV]; omega)] at HF2
    have HF3 := Lib.hid HF2
    clear HF2 HF
    have ht := SB.there H3' (o := 16 + k * 6) (n := 6) (by have := HK.out; omega)
    have R : SB (W3.setCells g (16 + k * 6) [.bool false, .int .i64 0, .int .i64 0, .int .i64 0, .int .i64 0, .int .i64 0]) g t (setS f (16 + k * 6) zeroS) := H3'.shot HK.out zeroS
    have RT : TG g w (W3.setCells g (16 + k * 6) [.bool false, .int .i64 0, .int .i64 0, .int .i64 0, .int .i64 0, .int .i64 0]) := touch_cells (S := fun k => k = g) T3 g (.inl rfl) _ _
    go_upto_region 5 with fail
    clear con cx cow cfr H3' T3 hbx3
    go_wp2_with (refine wpList_store_mid (by rfl) 27 _ _ (by rfl) g (16 + k * 6) (List.toArray [.bool false, .int .i64 0, .int .i64 0, .int .i64 0, .int .i64 0, .int .i64 0]) (by rfl) (by rfl) ht infoS (by simp [Value.oneCell']) ?_)
    refine bodyPost_ret (results_none rfl _ _ _) rfl ⟨rfl, ?_, RT⟩
    rw [HF3.out]
    exact R
  have c1' : decide (s.frames ≤ 0) = false := by simpa using c1
  by_cases c2 : s.x < 0
  · have c2' : decide (s.x < 0) = true := by simpa using c2
    have HF2 := HF.out
    rw [if_pos (show goneV s = true by simp [goneV]; omega)] at HF2
    have HF3 := Lib.hid HF2
    clear HF2 HF
    have ht := SB.there H3' (o := 16 + k * 6) (n := 6) (by have := HK.out; omega)
    have R : SB (W3.setCells g (16 + k * 6) [.bool false, .int .i64 0, .int .i64 0, .int .i64 0, .int .i64 0, .int .i64 0]) g t (setS f (16 + k * 6) zeroS) := H3'.shot HK.out zeroS
    have RT : TG g w (W3.setCells g (16 + k * 6) [.bool false, .int .i64 0, .int .i64 0, .int .i64 0, .int .i64 0, .int .i64 0]) := touch_cells (S := fun k => k = g) T3 g (.inl rfl) _ _
    go_upto_region 5 with fail
    clear con cx cow cfr H3' T3 hbx3
    go_wp2_with (refine wpList_store_mid (by rfl) 27 _ _ (by rfl) g (16 + k * 6) (List.toArray [.bool false, .int .i64 0, .int .i64 0, .int .i64 0, .int .i64 0, .int .i64 0]) (by rfl) (by rfl) ht infoS (by simp [Value.oneCell']) ?_)
    refine bodyPost_ret (results_none rfl _ _ _) rfl ⟨rfl, ?_, RT⟩
    rw [HF3.out]
    exact R
  have c2' : decide (s.x < 0) = false := by simpa using c2
  by_cases c3 : 13107200 < s.x
  · have c3' : decide (13107200 < s.x) = true := by simpa using c3
    have HF2 := HF.out
    rw [if_pos (show goneV s = true by simp [goneV]; omega)] at HF2
    have HF3 := Lib.hid HF2
    clear HF2 HF
    have ht := SB.there H3' (o := 16 + k * 6) (n := 6) (by have := HK.out; omega)
    have R : SB (W3.setCells g (16 + k * 6) [.bool false, .int .i64 0, .int .i64 0, .int .i64 0, .int .i64 0, .int .i64 0]) g t (setS f (16 + k * 6) zeroS) := H3'.shot HK.out zeroS
    have RT : TG g w (W3.setCells g (16 + k * 6) [.bool false, .int .i64 0, .int .i64 0, .int .i64 0, .int .i64 0, .int .i64 0]) := touch_cells (S := fun k => k = g) T3 g (.inl rfl) _ _
    go_upto_region 5 with fail
    clear con cx cow cfr H3' T3 hbx3
    go_wp2_with (refine wpList_store_mid (by rfl) 27 _ _ (by rfl) g (16 + k * 6) (List.toArray [.bool false, .int .i64 0, .int .i64 0, .int .i64 0, .int .i64 0, .int .i64 0]) (by rfl) (by rfl) ht infoS (by simp [Value.oneCell']) ?_)
    refine bodyPost_ret (results_none rfl _ _ _) rfl ⟨rfl, ?_, RT⟩
    rw [HF3.out]
    exact R
  have c3' : decide (13107200 < s.x) = false := by simpa using c3
  have HF2 := HF.out
  rw [if_neg (show ¬ goneV s = true by simp [goneV]; omega)] at HF2
  have HF3 := Lib.hid HF2
  clear HF2 HF
  go_upto_region 7 with fail
  clear con cx cow cfr c1' c2' c3' c1 c2 c3
  obtain ⟨on0, on1, on2, on3, on4, on5, -⟩ := H3'.cells HK.out
  have hbd := SB.bodyAt H3' HW.out
  have hbe : bod (setS f (16 + k * 6) s) (2 + who * 7) = bod f (2 + who * 7) := bod_congr (fun j h1 h2 => setS_out _ _ _ (by have := HW.out; omega))
  rw [hbe] at hbd
  clear hbe
  have cH := regrown W3 (v := .bool (hitsV s (bod f (2 + who * 7)))) (fun W _ => pHits.out W s hx2.1 hx2.2 hy2.1 hy2.2)
  generalize bod f (2 + who * 7) = b at *
  obtain ⟨b0, b1, b2, b3, b4, b5, b6, -⟩ := hbd
  unfold shoV shoL bodV bodL at cH
  have o0 := cell_regrown on0
  have o1 := cell_regrown on1
  have o2 := cell_regrown on2
  have o3 := cell_regrown on3
  have o4 := cell_regrown on4
  have o5 := cell_regrown on5
  have p0 := cell_regrown b0
  have p1 := cell_regrown b1
  have p2 := cell_regrown b2
  have p3 := cell_regrown b3
  have p4 := cell_regrown b4
  have p5 := cell_regrown b5
  have p6 := cell_regrown b6
  clear on0 on1 on2 on3 on4 on5 b0 b1 b2 b3 b4 b5 b6
  refine wp_region_quiet_below (by kernel_rfl) (by kernel_rfl) ?_
  repeat (quiet_step (exact cH _ _))
  refine wpQuiet_nil ?_
  intro W4 hw'
  obtain ⟨⟨dq, osq⟩, hw''⟩ := hw'
  have hb4 : Below W3.heap.size W3 W4 := by rw [hw'']; exact below_regrown _ _ _
  clear hw'' cH o0 o1 o2 o3 o4 o5 p0 p1 p2 p3 p4 p5 p6 pHits
  have H4 : SS W4 g t f k s := SB.below H3' hb4 (SB.lt H3')
  have hbx4 := hbx3.below hb4 hbx3.lt
  have T4 : TG g w W4 := T3.trans (Touch.of_below hb4 : TG g _ _) (fun k hk => .inl hk)
  clear H3' hbx3 T3 hb4
  have HFH := HF3.out
  obtain ⟨hv, hhv⟩ : ∃ hv, hitsV s b = hv := ⟨_, rfl⟩
  rw [hhv] at HFH ⊢
  clear hhv HF3
  cases hv
  · rw [if_neg (by simp)] at HFH
    have HF5 := Lib.hid HFH
    clear HFH
    go_wp2_with fail
    go_end0
    exact ⟨rfl, by rw [HF5.out]; exact H4, T4⟩
  · rw [if_pos rfl] at HFH
    have HF5 := Lib.hid HFH
    clear HFH
    have ht := SB.there H4 (o := 16 + k * 6) (n := 6) (by have := HK.out; omega)
    have R : SB (W4.setCells g (16 + k * 6) [.bool false, .int .i64 0, .int .i64 0, .int .i64 0, .int .i64 0, .int .i64 0]) g t (setS f (16 + k * 6) zeroS) := H4.shot HK.out zeroS
    have RT0 : TG g W4 (W4.setCells g (16 + k * 6) [.bool false, .int .i64 0, .int .i64 0, .int .i64 0, .int .i64 0, .int .i64 0]) := touch_cells (S := fun k => k = g) (Touch.refl _ _) g (.inl rfl) _ _
    have RT := T4.trans RT0 (fun k hk => .inl hk)
    have hbx5 := hbx4.touch RT0 (fun e => hgx e.symm)
    clear hbx4 H4 T4 RT0
    go_upto_region 8 with fail
    go_upto_region 9 with (refine wpList_store_mid (by rfl) 27 _ _ (by rfl) g (16 + k * 6) (List.toArray [.bool false, .int .i64 0, .int .i64 0, .int .i64 0, .int .i64 0, .int .i64 0]) (by rfl) (by rfl) ht infoS (by simp [Value.oneCell']) ?_; change wpList _ _ _ _ _ (World.setCells _ g (16 + k * 6) [.bool false, .int .i64 0, .int .i64 0, .int .i64 0, .int .i64 0, .int .i64 0]))
    generalize W4.setCells g (16 + k * 6) [.bool false, .int .i64 0, .int .i64 0, .int .i64 0, .int .i64 0, .int .i64 0] = W5 at *
    have cb := CBX.out W5 hbx5
    go_wp2_with fail
    refine (pHurt.out _ R).mono ?_
    rintro e w6 ⟨rfl, h6, t6⟩
    go_wp2_with fail
    go_end0
    exact ⟨rfl, by rw [HF5.out]; exact h6, RT.trans t6 (fun k hk => .inl hk)⟩
end Go.Proofs.Ytlhoffhagfhbcaa.Gm
namespace Go.Proofs.Ytlhoffhagfhbcaa.Gm
open Go.RowKit Go.Sort Go.Proofs.Ytlhoffhagfhbcaa.Num
set_option linter.all false

def zF : F := fun _ => 0
theorem stA_zero : stA zF = Try.zeroCells31 := by kernel_rfl
theorem infoSt : (Try.prog.info? 31).map (·.size) = some 66 := by kernel_rfl
theorem infoStf (f : F) : (Try.prog.info? 31).map (·.size) = some (stA f).size := by rw [stA_size]; exact infoSt
def bodiesF (f : F) (n : Nat → Nat) : Nat → F
  | 0 => headF f
  | i + 1 => bodyF (bodiesF f n i) i (n i)
theorem Inv.bodies {fr sc : Int} {f : F} (h : Inv fr sc f) (n : Nat → Nat) : ∀ i : Nat, i ≤ 2 → Inv (fr + 1) sc (bodiesF f n i)
  | 0, _ => h.head
  | i + 1, hi => (Inv.bodies h n i (by omega)).body (by omega) _
theorem step_eq (f : F) (n : Nat → Nat) : stepF f n = fliesF (bodiesF f n 2) n 8 := rfl

set_option maxRecDepth 100000 in
set_option maxHeartbeats 8000000 in
theorem step_any (w : World) (f : F) (fr sc : Int) (n : Nat → Nat) (hn : ∀ i, i < 2 → n i < 65536) (hI : Inv fr sc f) (hsc : sc ≤ 4611686018427387000) (hfr : fr ≤ 4611686018427387904) (hfr0 : 0 ≤ fr) :
    Calls Try.prog 36 #[stV f, inV n] w fun e w' => e = .returned (stV (stepF f n)) ∧ Below w.heap.size w w' := by
  obtain ⟨W1, hW1⟩ : ∃ W1, W1 = ((w.alloc (.cells (stA f) 31)).alloc (.cells #[.int .u16 (n 0), .int .u16 (n 1)] 69)).alloc (.cells (stA zF) 31) := ⟨_, rfl⟩
  have hS : SB W1 w.heap.size 31 f := by rw [hW1]; exact ((SB.new w _ f).alloc _).alloc _
  have hbx : Blk W1 (w.heap.size + 1) 69 #[.int .u16 (n 0), .int .u16 (n 1)] := by
    rw [hW1]
    have := (Blk.new (w.alloc (.cells (stA f) 31)) 69 #[.int .u16 (n 0), .int .u16 (n 1)]).alloc (.cells (stA zF) 31)
    simpa using this
  have hR : SB W1 (w.heap.size + 1 + 1) 31 zF := by
    rw [hW1]
    have := SB.new ((w.alloc (.cells (stA f) 31)).alloc (.cells #[.int .u16 (n 0), .int .u16 (n 1)] 69)) 31 zF
    simpa using this
  have hB : Below w.heap.size w W1 := by rw [hW1]; exact (((Below.refl _ w).alloc (Nat.le_refl _) _).alloc (by simp) _).alloc (by simp; omega) _
  have hz : w.heap.size + 3 ≤ W1.heap.size := by rw [hW1]; simp
  have CBX := Lib.hid (show ∀ W, Blk W (w.heap.size + 1) 69 #[.int .u16 (n 0), .int .u16 (n 1)] → ∀ i, i < 2 → W.cell? ⟨w.heap.size + 1, i, none⟩ = some (.int .u16 (n i)) from fun W hW i hi => by
    rw [hW.cell i]
    have e : i = 0 ∨ i = 1 := by omega
    rcases e with rfl | rfl <;> rfl)
  have HN := Lib.hid hn
  have HI := Lib.hid hI
  have hf0 := hI.frame
  have sd0 := hI.seed0
  have sd1 := hI.seed1
  have c0 := hS.int (j := 0) (by omega) (by omega) (by omega)
  have c1 := hS.seed
  have f0 := hS.fr 0
  have f1 := hS.fr 1
  rw [hf0] at c0
  have hf0' := Lib.hid hf0
  have pR := Lib.hid (fun W => roll_any W (f 1) sd0 sd1)
  have hw1 : IntKind.i64.wrap (fr + 1) = fr + 1 := IntWalk.i64_in _ (by omega)
  rw [stA_zero] at hW1
  unfold inV stV
  have S2 := (hS.setInt (j := 0) (by omega) (by omega) (by omega) (fr + 1)).set_ (j := 1) (by omega) (rollV (f 1))
  rw [cv_seed] at S2
  have e2 : put (put f 0 (fr + 1)) 1 (rollV (f 1)) = bodiesF f n 0 := by rw [← hf0]; rfl
  rw [e2] at S2
  have T2 : TG w.heap.size W1 ((W1.setCell ⟨w.heap.size, 0, none⟩ (.int .i64 (fr + 1))).setCell ⟨w.heap.size, 1, none⟩ (.int .u32 (rollV (f 1)))) := TG.set (TG.set (Touch.refl _ _) _ _) _ _
  clear hn hI hf0 e2 hS
  go_enter Try.func36, Try.ntmps36
  go_upto_region 1 with fail
  rw [← hW1]
  clear hW1
  go_wp2_with fail
  refine (pR.out _).mono ?_
  rintro e w' ⟨rfl, rfl⟩
  go_upto_region 3 with fail
  clear c0 c1 f0 f1 hw1 pR
  generalize (W1.setCell ⟨w.heap.size, 0, none⟩ (.int .i64 (fr + 1))).setCell ⟨w.heap.size, 1, none⟩ (.int .u32 (rollV (f 1))) = W2 at *
  go_wp2_with fail
  go_loopw [16] (fun iv wr => ∃ i : Nat, i ≤ 2 ∧ iv = .int .i64 i ∧ SB wr w.heap.size 31 (bodiesF f n i) ∧ TG w.heap.size W1 wr) (fun iv _ => 2 - (intOf iv).toNat)
  case atStart => exact ⟨0, by omega, rfl, S2, T2⟩
  case round =>
    clear S2 T2
    obtain ⟨i, hi, rfl, hS, hT⟩ := hrel
    by_cases hlt : i < 2
    · have i1 : (0 : Int) ≤ (i : Int) := by omega
      have i2 : (i : Int) < 2 := by omega
      have hInv := HI.out.bodies n i hi
      have hb := hInv.b i hlt
      have hni := HN.out i hlt
      have cI := CBX.out wr (hbx.touch hT (by omega)) i hlt
      have p1 := Lib.hid (walk_any wr w.heap.size _ _ i (n i) _ hlt hni (BS.of hS i) hb.vx0 hb.vx1)
      have hT' := Lib.hid hT
      have HL := Lib.hid hlt
      have HNI := Lib.hid hni
      have HB := Lib.hid hb
      have HES := Lib.hid (show bodiesF f n (i + 1) = fireF (setB (bodiesF f n i) (2 + i * 7) (slideB (fallB (walkB (bod (bodiesF f n i) (2 + i * 7)) (n i)) (n i)))) i (n i) from rfl)
      clear hInv hb hS hT hni hlt
      generalize bodiesF f n i = F0 at *
      generalize bod F0 (2 + i * 7) = b at *
      go_wp2_with fail
      refine p1.out.mono ?_
      rintro e w3 ⟨rfl, h3, t3⟩
      have T3 := hT'.out.trans t3 (fun k hk => .inl hk)
      have p2 := Lib.hid (fall_any w3 w.heap.size _ _ i (n i) _ HL.out HNI.out h3 (walkB_ok HB.out _))
      have cI := CBX.out w3 (hbx.touch T3 (by omega)) i HL.out
      clear h3 t3 p1 hT'
      go_wp2_with fail
      refine p2.out.mono ?_
      rintro e w4 ⟨rfl, h4, t4⟩
      have T4 := T3.trans t4 (fun k hk => .inl hk)
      have p3 := Lib.hid (slide_any w4 w.heap.size _ _ i _ HL.out h4 (fallB_ok (walkB_ok HB.out _) _))
      clear h4 t4 p2 T3
      go_wp2_with fail
      refine p3.out.mono ?_
      rintro e w5 ⟨rfl, h5, t5⟩
      have T5 := T4.trans t5 (fun k hk => .inl hk)
      have p4 := Lib.hid (fire_any w5 w.heap.size _ _ i (n i) HL.out HNI.out h5 (by rw [setB_bod]; exact slideB_ok (fallB_ok (walkB_ok HB.out _) _)))
      have cI := CBX.out w5 (hbx.touch T5 (by omega)) i HL.out
      clear h5 t5 p3 T4
      go_wp2_with fail
      refine p4.out.mono ?_
      rintro e w6 ⟨rfl, h6, t6⟩
      have T6 := T5.trans t6 (fun k hk => .inl hk)
      clear t6 p4 T5
      have hlt := HL.out
      go_wp2_with fail
      go_roundw
      case rel => exact ⟨i + 1, by omega, by go_num, by rw [HES.out]; exact h6, T6⟩
      case measure => simp [intOf]; omega
    · obtain rfl : i = 2 := by omega
      rw [show ((2 : Nat) : Int) = 2 from rfl]
      have HST := Lib.hid (step_eq f n)
      have HI2 := Lib.hid (HI.out.bodies n 2 (by omega))
      generalize bodiesF f n 2 = F0 at *
      clear hlt hi HI
      go_wp2_with fail
      go_loopw [40] (fun kv wr => ∃ k : Nat, k ≤ 8 ∧ kv = .int .i64 k ∧ SB wr w.heap.size 31 (fliesF F0 n k) ∧ TG w.heap.size W1 wr) (fun kv _ => 8 - (intOf kv).toNat)
      case atStart => exact ⟨0, by omega, rfl, hS, hT⟩
      case round =>
        clear hS hT
        obtain ⟨k, hk, rfl, hS, hT⟩ := hrel
        by_cases hlt : k < 8
        · have k1 : (0 : Int) ≤ (k : Int) := by omega
          have k2 : (k : Int) < 8 := by omega
          have con := hS.on hlt
          have hInv := HI2.out.flies n k hk
          have hT' := Lib.hid hT
          have HES := Lib.hid (show fliesF F0 n (k + 1) = if fliesF F0 n k (16 + k * 6) = 0 then fliesF F0 n k else flyF (fliesF F0 n k) k n from rfl)
          by_cases hon : fliesF F0 n k (16 + k * 6) = 0
          · rw [onB_no hon] at con
            have HES2 := HES.out
            rw [if_pos hon] at HES2
            have HES3 := Lib.hid HES2
            have HS := Lib.hid hS
            clear HES HES2 hon hS hT hInv
            go_wp2_with fail
            go_roundw
            case rel => exact ⟨k + 1, by omega, by go_num, by rw [HES3.out]; exact HS.out, hT'.out⟩
            case measure => simp [intOf]; omega
          · rw [onB_yes hon] at con
            have HES2 := HES.out
            rw [if_neg hon] at HES2
            have HES3 := Lib.hid HES2
            have hbx2 := hbx.touch hT (by omega)
            have d0 := hbx2.cell 0
            have d1 := hbx2.cell 1
            have p1 := Lib.hid (fly_any wr w.heap.size _ _ _ _ k n hlt HN.out hS hInv (by omega) hon)
            unfold inV at p1
            clear HES HES2 hon hS hT hInv hbx2
            generalize fliesF F0 n k = F1 at *
            go_wp2_with fail
            refine p1.out.mono ?_
            rintro e w3 ⟨rfl, h3, t3⟩
            have T3 := hT'.out.trans t3 (fun k hk => .inl hk)
            clear t3 p1 hT'
            go_wp2_with fail
            go_roundw
            case rel => exact ⟨k + 1, by omega, by go_num, by rw [HES3.out]; exact h3, T3⟩
            case measure => simp [intOf]; omega
        · obtain rfl : k = 8 := by omega
          rw [← HST.out] at hS
          have hR2 : SB wr (w.heap.size + 1 + 1) 31 zF := hR.touch hT (by omega)
          have hBB := hB.trans ((hT.below (by omega) (fun k hk => by omega) : Below w.heap.size W1 wr))
          clear hT hR hbx hlt hk CBX HN HI2 HST
          obtain ⟨C, hC⟩ : ∃ C, C = stA (stepF f n) := ⟨_, rfl⟩
          have hsz : C.size = 66 := by rw [hC]; exact stA_size _
          have hone : C.all (·.oneCell') = true := by rw [hC]; exact stA_one _
          have hif : (Try.prog.info? 31).map (·.size) = some C.size := by rw [hsz]; exact infoSt
          have hS2 : Blk wr w.heap.size 31 C := by rw [hC]; exact hS
          obtain ⟨Z, hZ⟩ : ∃ Z, Z = stA zF := ⟨_, rfl⟩
          have hzs : Z.size = C.size := by rw [hZ, hsz]; exact stA_size _
          have hR3 : Blk wr (w.heap.size + 1 + 1) 31 Z := by rw [hZ]; exact hR2
          have HC := Lib.hid hC
          clear hC hZ hR2 hS hsz
          go_wp2_with (first | (refine wpList_load_blk (by rfl) 31 _ (by rfl) w.heap.size (by rfl) _ C _ hS2 Try.underlying31 (by rfl) hif ?_) | (refine wpList_store_blk (by rfl) 31 _ _ (by rfl) (w.heap.size + 1 + 1) C (by rfl) (by rfl) _ Z hR3 hif hzs hone ?_; intro W6 hd6 ht6))
          refine bodyPost_ret (v := .agg C) (results_blk Try.results36 _ _ (w.heap.size + 1 + 1) _ _ _ (by rfl) hd6 Try.underlying31 (by rfl) hif) rfl ⟨by rw [HC.out], ?_⟩
          exact hBB.trans (ht6.below hBB.size (fun k hk => by omega))
end Go.Proofs.Ytlhoffhagfhbcaa.Gm
namespace Go.Proofs.Ytlhoffhagfhbcaa.Eql
open Go.RowKit Go.WideShapes
set_option linter.all false

/-- Two cells of one kind, the second one as it may be. -/
def OneK (a b : Value) : Prop := (∃ x y, a = .bool x ∧ b = .bool y) ∨ (∃ k x y, a = .int k x ∧ b = .int k y ∧ (Lit.int k y).wf = true)
def SameK (cs cs' : List Value) : Prop := cs.length = cs'.length ∧ ∀ (i : Nat) (a b : Value), cs[i]? = some a → cs'[i]? = some b → OneK a b
theorem SameK.drop {cs cs' : List Value} (h : SameK cs cs') (n : Nat) : SameK (cs.drop n) (cs'.drop n) :=
  ⟨by simp [h.1], fun i a b ha hb => h.2 (n + i) a b (by rwa [List.getElem?_drop] at ha) (by rwa [List.getElem?_drop] at hb)⟩
theorem SameK.take {cs cs' : List Value} (h : SameK cs cs') (n : Nat) : SameK (cs.take n) (cs'.take n) :=
  ⟨by simp [h.1], fun i a b ha hb => by
    rw [List.getElem?_take] at ha hb
    split at ha
    · rename_i hi
      rw [if_pos hi] at hb
      exact h.2 i a b ha hb
    · cases ha⟩
theorem mapM_some {α : Type} {f g : α → Option (List Lit)} : ∀ (L : List α), (∀ x ∈ L, (f x).isSome = true → (g x).isSome = true) → (L.mapM f).isSome = true → (L.mapM g).isSome = true
  | [], _, _ => rfl
  | x :: r, h, hf => by
    rw [List.mapM_cons] at hf ⊢
    cases hx : f x with
    | none => simp [hx] at hf
    | some a =>
      cases hr : r.mapM f with
      | none => simp [hx, hr] at hf
      | some b =>
        obtain ⟨a', ha'⟩ := Option.isSome_iff_exists.1 (h x (by simp) (by rw [hx]; rfl))
        obtain ⟨b', hb'⟩ := Option.isSome_iff_exists.1 (mapM_some r (fun y hy => h y (by simp [hy])) (by rw [hr]; rfl))
        simp [ha', hb']
section
variable {P : Program}
theorem lits_same : ∀ (D : Nat) (t : TypeId) (cs cs' : List Value), SameK cs cs' → (P.keyLits D t cs).isSome = true → (P.keyLits D t cs').isSome = true
  | 0, _, _, _, _, h => by simp [Program.keyLits] at h
  | D + 1, t, cs, cs', hs, h => by
    cases hu : P.underlying t with
    | none => simp [Program.keyLits, hu] at h
    | some kd =>
      obtain ⟨l, hl⟩ := Option.isSome_iff_exists.1 h
      have one : ∀ v, cs = [v] → ∃ v', cs' = [v'] ∧ OneK v v' := by
        intro v e
        subst e
        have h1 := hs.1
        match cs', h1, hs with
        | [v'], _, hs => exact ⟨v', rfl, hs.2 0 v v' rfl rfl⟩
      cases kd with
      | bool =>
        obtain ⟨b, e, _⟩ := keyLits_bool' hu hl
        obtain ⟨v', e', h1⟩ := one _ e
        subst e'
        rcases h1 with ⟨x, y, _, rfl⟩ | ⟨k, x, y, e1, _⟩
        · simp [Program.keyLits, hu]
        · cases e1
      | int q =>
        obtain ⟨n, e, _⟩ := keyLits_int' hu hl
        obtain ⟨v', e', h1⟩ := one _ e
        subst e'
        rcases h1 with ⟨x, y, e1, _⟩ | ⟨k, x, y, e1, rfl, hw⟩
        · cases e1
        · cases e1
          simp [Program.keyLits, hu, hw]
      | string =>
        obtain ⟨s, e, _⟩ := keyLits_string' hu hl
        obtain ⟨v', e', h1⟩ := one _ e
        rcases h1 with ⟨x, y, e1, _⟩ | ⟨k, x, y, e1, _⟩ <;> cases e1
      | array n e =>
        simp only [Program.keyLits, hu] at h ⊢
        rw [hs.1] at h
        split at h
        · rename_i hc
          rw [if_pos hc]
          rw [Option.isSome_map] at h ⊢
          exact mapM_some _ (fun i _ => lits_same D e _ _ ((hs.drop _).take _)) h
        · simp at h
      | struct fs =>
        simp only [Program.keyLits, hu] at h ⊢
        rw [hs.1] at h
        split at h
        · rename_i hc
          rw [if_pos hc]
          rw [Option.isSome_map] at h ⊢
          exact mapM_some _ (fun f _ => lits_same D f.type _ _ ((hs.drop _).take _)) h
        · simp at h
      | _ => simp [Program.keyLits, hu] at h
/-- The comparison. -/
theorem eql_run (w : World) {m : Nat} (hm : m ≤ 10000) {t : TypeId} (hk : P.keyTypeAt m t = true) (ht : P.tiled m t = true)
    (hwide : (match P.underlying t with | some (.array _ _) | some (.struct _) => true | _ => false) = true)
    (z : List Value) {D : Nat} (hz : (P.keyLits D t z).isSome = true) (hzl : z.length = P.cellsOf t) {xs ys : Array Value} (hx : SameK z xs.toList) (hy : SameK z ys.toList) :
    ∃ r : Bool, (Op.equalIn 10000 t (.agg xs) (.agg ys)).run P w = .ok r w ∧ (r = true ↔ xs = ys) := by
  obtain ⟨lx, hlx⟩ := Option.isSome_iff_exists.1 (lits_same D t z xs.toList hx hz)
  obtain ⟨ly, hly⟩ := Option.isSome_iff_exists.1 (lits_same D t z ys.toList hy hz)
  have fx : ∀ cs : Array Value, SameK z cs.toList → (Value.agg cs).formed P t = true := by
    intro cs hc
    have hl := hc.1
    rw [hzl] at hl
    unfold Value.formed
    revert hwide
    cases P.underlying t with
    | none => intro h; cases h
    | some d => cases d <;> intro h <;> first | (cases h; done) | (simp; simpa using hl.symm)
  have := run_equalIn_deep (P := P) (10000 - m) m t hk w D D (.agg xs) (.agg ys) lx ly (fx xs hx) (fx ys hy) hlx hly
  rw [show 10000 - m + m = 10000 by omega] at this
  obtain ⟨r, hr, hiff⟩ := this
  refine ⟨r, hr, hiff.trans ⟨fun e => ?_, fun e => ?_⟩⟩
  · have cx := cells_of_lits m t ht D _ _ hlx
    have cy := cells_of_lits m t ht D _ _ hly
    rw [e, ← cy] at cx
    exact Array.ext' cx
  · subst e
    rw [hlx] at hly
    exact Option.some.inj hly
end
end Go.Proofs.Ytlhoffhagfhbcaa.Eql
