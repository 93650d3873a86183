/-
  The walk of game.hurt.
-/
import Derived.Test.YtblnfkhaicjeaaaGfire
namespace Go.Proofs.Ytblnfkhaicjeaaa.Gm
open Go.RowKit Go.Proofs.Ytblnfkhaicjeaaa.Num
set_option linter.all false

theorem setB_life (f : F) (o : Nat) (l v : Int) (b : Body) {s : Nat} (h : s < o ∨ o + 7 ≤ s) : setB (put (put f (o + 4) l) s v) o b = setB (put f s v) o b := by
  funext k
  unfold setB put
  (repeat' split) <;> (first | rfl | omega)

set_option maxRecDepth 100000 in
set_option maxHeartbeats 4000000 in
theorem hurt_any (w : World) (g : Nat) (t : TypeId) (f : F) (who n : Nat) (hw : who < 2) (hn : n < 65536) (hS : SB w g t f) (hb : BodyOk (bod f (2 + who * 7))) (s0 : 0 ≤ f 1) (s1 : f 1 < 4294967296) (q0 : 0 ≤ f (64 + (1 - who))) (q1 : f (64 + (1 - who)) ≤ 4611686018427387904) :
    Calls Try.prog 108 #[.pointer (some ⟨g, 0, none⟩), .int .i64 who, .int .u16 n] w fun e w' => e = .returned (.tuple #[]) ∧ SB w' g t (hurtF f who n) ∧ TG g w w' := by
  have a32 := and32 hn
  have l0 := hb.l0
  have l1 := hb.l1
  have hpn := painV_in s0 n
  obtain ⟨-, -, -, -, cl, -, -, fr⟩ := hS.bodyAt hw
  have fl := fr (2 + who * 7 + 4)
  have csd := hS.seed
  have i1 : (0 : Int) ≤ (who : Int) := by omega
  have i2 : (who : Int) < 2 := by omega
  obtain ⟨v, hv⟩ : ∃ v, 1 - who = v := ⟨_, rfl⟩
  have hv1 : (1 : Int) - (who : Int) = (v : Int) := by omega
  have hv2 : v < 2 := by omega
  have HF := Lib.hid (show hurtF f who n = if 0 < (bod f (2 + who * 7)).life - painV (f 1) n then put f (2 + who * 7 + 4) ((bod f (2 + who * 7)).life - painV (f 1) n)
    else setB (put f (64 + (1 - who)) (f (64 + (1 - who)) + 1)) (2 + who * 7) (bornB who) from rfl)
  rw [hv] at HF q0 q1
  have pB := Lib.hid (fun W => born_any W who hw)
  have HS := Lib.hid hS
  have HW := Lib.hid hw
  obtain ⟨b, hbb⟩ : ∃ b, bod f (2 + who * 7) = b := ⟨_, rfl⟩
  rw [hbb] at l0 l1 cl HF
  obtain ⟨sd, hsd⟩ : ∃ sd, f 1 = sd := ⟨_, rfl⟩
  rw [hsd] at s0 s1 csd HF hpn
  clear hbb hS hb fr hsd hv
  have hbt : n / 32 % 2 = 1 ∨ n / 32 % 2 = 0 := by omega
  rcases hbt with hbt | hbt
  · rw [hbt] at a32
    simp only [Nat.zero_mul, Nat.one_mul] at a32
    have a32' : bits .and .u16 (n : Int) 32 = _ := a32
    obtain ⟨m, hm⟩ : ∃ m : Nat, sd / 65536 = (m : Int) := ⟨(sd / 65536).toNat, by omega⟩
    have hm1 : m < 65536 := by omega
    rw [show painV sd n = 4 + (m : Int) % 3 by unfold painV; rw [if_pos hbt, hm]] at HF hpn
    have HM := Lib.hid hpn
    clear a32 hbt hw
    go_enter Try.func108, Try.ntmps108
    go_upto_region 3 with fail
    generalize hp : (4 + (m : Int) % 3) = p at *
    have hp2 := HM.out
    clear hp HM hm
    have R1 := HS.out.setInt (j := 2 + who * 7 + 4) (by have := HW.out; omega) (by omega) (by have := HW.out; omega) (b.life - p)
    have RT1 := TG.set (show TG g w w from Touch.refl _ w) (2 + who * 7 + 4) (.int .i64 (b.life - p))
    have hq : 1 ≤ p ∧ p ≤ 10 := hp2
    · skip
      go_upto_region 5 with fail
      by_cases hl : 0 < b.life - p
      · have HF2 := HF.out
        rw [if_pos hl] at HF2
        have HF3 := Lib.hid HF2
        clear HF2 HF
        go_upto_region 5 with fail
        go_wp2_with fail
        refine bodyPost_ret (results_none rfl _ _ _) rfl ⟨rfl, ?_, RT1⟩
        rw [HF3.out]
        exact R1
      · have HF2 := HF.out
        rw [if_neg hl] at HF2
        have HF3 := Lib.hid HF2
        clear HF2 HF
        go_upto_region 6 with fail
        generalize w.setCell ⟨g, 2 + who * 7 + 4, none⟩ (.int .i64 (b.life - p)) = W1 at *
        have s1 := R1.score hv2
        rw [put_ne _ _ (by omega)] at s1
        have sf := R1.fr (64 + v)
        have hv3 : (0 : Int) ≤ (v : Int) := by omega
        have hv4 : (v : Int) < 2 := by omega
        have R2 := R1.setInt (j := 64 + v) (by omega) (by omega) (by omega) (f (64 + v) + 1)
        have RT2 := TG.set RT1 (64 + v) (.int .i64 (f (64 + v) + 1))
        clear R1 RT1
        go_region
        all_goals
          go_wp2_with fail
          refine (pB.out _).mono ?_
          rintro e w3 ⟨rfl, hb3⟩
          have R3 := R2.drew.below hb3 R2.lt
          have RT3 : TG g w w3 := RT2.drew.trans (Touch.of_below hb3 : TG g _ _) (fun k hk => .inl hk)
          have ht := R3.there (o := 2 + who * 7) (n := 7) (by omega)
          have R4 := R3.setBody HW.out (bornB who)
          have RT4 := touch_cells (S := fun k => k = g) RT3 g (.inl rfl) (bodL (bornB who)) (2 + who * 7)
          rw [setB_life _ _ _ _ _ (by omega)] at R4
          clear R2 RT2 R3 RT3
          go_wp2_with (refine wpList_store_mid (by rfl) 26 _ _ (by rfl) g (2 + who * 7) (bodL (bornB who)).toArray (by rfl) (by rfl) ht infoB (bodL_one _) ?_)
          go_end0
          exact ⟨rfl, by rw [HF3.out]; exact R4, RT4⟩
  · rw [hbt] at a32
    simp only [Nat.zero_mul, Nat.one_mul] at a32
    have a32' : bits .and .u16 (n : Int) 32 = _ := a32
    rw [show painV sd n = 10 by unfold painV; rw [if_neg (by omega)]] at HF hpn
    clear a32 hbt hw
    have R1 := HS.out.setInt (j := 2 + who * 7 + 4) (by have := HW.out; omega) (by omega) (by have := HW.out; omega) (b.life - 10)
    have RT1 := TG.set (show TG g w w from Touch.refl _ w) (2 + who * 7 + 4) (.int .i64 (b.life - 10))
    go_enter Try.func108, Try.ntmps108
    · skip
      go_upto_region 5 with fail
      by_cases hl : 0 < b.life - 10
      · have HF2 := HF.out
        rw [if_pos hl] at HF2
        have HF3 := Lib.hid HF2
        clear HF2 HF
        go_upto_region 5 with fail
        go_wp2_with fail
        refine bodyPost_ret (results_none rfl _ _ _) rfl ⟨rfl, ?_, RT1⟩
        rw [HF3.out]
        exact R1
      · have HF2 := HF.out
        rw [if_neg hl] at HF2
        have HF3 := Lib.hid HF2
        clear HF2 HF
        go_upto_region 6 with fail
        generalize w.setCell ⟨g, 2 + who * 7 + 4, none⟩ (.int .i64 (b.life - 10)) = W1 at *
        have s1 := R1.score hv2
        rw [put_ne _ _ (by omega)] at s1
        have sf := R1.fr (64 + v)
        have hv3 : (0 : Int) ≤ (v : Int) := by omega
        have hv4 : (v : Int) < 2 := by omega
        have R2 := R1.setInt (j := 64 + v) (by omega) (by omega) (by omega) (f (64 + v) + 1)
        have RT2 := TG.set RT1 (64 + v) (.int .i64 (f (64 + v) + 1))
        clear R1 RT1
        go_region
        all_goals
          go_wp2_with fail
          refine (pB.out _).mono ?_
          rintro e w3 ⟨rfl, hb3⟩
          have R3 := R2.drew.below hb3 R2.lt
          have RT3 : TG g w w3 := RT2.drew.trans (Touch.of_below hb3 : TG g _ _) (fun k hk => .inl hk)
          have ht := R3.there (o := 2 + who * 7) (n := 7) (by omega)
          have R4 := R3.setBody HW.out (bornB who)
          have RT4 := touch_cells (S := fun k => k = g) RT3 g (.inl rfl) (bodL (bornB who)) (2 + who * 7)
          rw [setB_life _ _ _ _ _ (by omega)] at R4
          clear R2 RT2 R3 RT3
          go_wp2_with (refine wpList_store_mid (by rfl) 26 _ _ (by rfl) g (2 + who * 7) (bodL (bornB who)).toArray (by rfl) (by rfl) ht infoB (bodL_one _) ?_)
          go_end0
          exact ⟨rfl, by rw [HF3.out]; exact R4, RT4⟩
end Go.Proofs.Ytblnfkhaicjeaaa.Gm
