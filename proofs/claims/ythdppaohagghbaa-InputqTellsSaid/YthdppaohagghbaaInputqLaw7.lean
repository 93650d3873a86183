/-
  The walks of backstayref21.List and (*inputq.Queue).List.
-/
import Derived.Test.YthdppaohagghbaaInputqLaw6
import Derived.Test.YthdppaohagghbaaRingInputD
namespace Go.Proofs.Ythdppaohagghbaa.InputqP
open Go.RowKit Go.Sort Go.Shelf
set_option linter.all false
attribute [local go_sem] Oper.semAt_some
open Inputq (QAt fpQ TurnedQ S)
open Ref21 (RAt RTo rval qv L)

/-- Of k entries from the number f on those that lie within two bounds. -/
def pk (f : Int) (l : List Int) (lo hi : Int) : Nat → List Int
  | 0 => []
  | k + 1 => if lo ≤ f + (k : Int) ∧ f + (k : Int) < hi then pk f l lo hi k ++ [nth l k] else pk f l lo hi k
theorem pk_len (f : Int) (l : List Int) (lo hi : Int) (k : Nat) : (pk f l lo hi k).length ≤ k := by
  induction k with
  | zero => simp [pk]
  | succ k ih =>
    unfold pk
    split
    · simp; omega
    · omega

/-- A slice of inputs in memory of its own. -/
def Out (w w' : World) (v : Value) (l : List Int) : Prop := L w' v l ∧ Below w.heap.size w w' ∧ ∀ k, v.ownBlock = some k → w.heap.size ≤ k

set_option maxRecDepth 100000 in
set_option maxHeartbeats 4000000 in
theorem rlist_any (w : World) (a b : Option Addr) (c d : Nat) (y : R) (lo hi : Int) (h : RAt w (.slice a y.K.length c) (.slice b y.U.length d) y) (hk0 : 0 ≤ y.fk) (hk1 : y.fk ≤ y.K.length) (hk : y.K.length ≤ 500000) :
    Calls Try.prog 24 #[rval (.slice a y.K.length c) (.slice b y.U.length d) y, .int .i64 lo, .int .i64 hi] w fun e w' => ∃ v, e = .returned v ∧ Out w w' v (pk y.fk (y.K.drop y.fk.toNat) lo hi (y.K.length - y.fk.toNat)) := by
  obtain ⟨i0, hi0, hz0, hz1, hz2⟩ := info_parts RingInput.info
  obtain ⟨W1, hW1, hbox, hK1, hB1, hz⟩ : ∃ W1, W1 = w.alloc (.cells (qc (.slice a y.K.length c) (.slice b y.U.length d) y) 37) ∧ QB W1 w.heap.size (.slice a y.K.length c) (.slice b y.U.length d) y ∧ L W1 (.slice a y.K.length c) y.K ∧ Below w.heap.size w W1 ∧ W1.heap.size = w.heap.size + 1 :=
    ⟨_, rfl, Blk.new _ _ _, h.1.below ((Below.refl _ w).alloc (Nat.le_refl _) _), (Below.refl _ w).alloc (Nat.le_refl _) _, by simp⟩
  have hlt := On.lt h.1
  obtain ⟨F, hF⟩ : ∃ F : Nat, y.fk = (F : Int) := ⟨y.fk.toNat, by omega⟩
  obtain ⟨n, hn⟩ : ∃ n : Nat, y.K.length = F + n := ⟨y.K.length - F, by omega⟩
  have e2 : (y.fk).toNat = F := by omega
  have e3 : y.K.length - F = n := by omega
  rw [e2, e3]
  have E2 := Lib.hid e2
  obtain ⟨k0, k1, k2, k3, k4, k5⟩ := hbox.cells
  rw [hF] at k2
  have HF := Lib.hid hF
  have HN := Lib.hid hn
  clear e2 e3 h hn
  unfold rval qv
  unfold qc at hW1
  rw [hF] at hW1 ⊢
  clear hF
  go_enter Try.func24, Try.ntmps24
  go_upto_region 1 with fail
  rw [← hW1]
  clear hW1
  go_wp2_with fail
  go_loopw [7, 8] (fun ov iv wr => ∃ k : Nat, k ≤ n ∧ iv = .int .i64 ((F + k : Nat) : Int) ∧ QB wr w.heap.size (.slice a y.K.length c) (.slice b y.U.length d) y ∧ L wr (.slice a y.K.length c) y.K ∧ L wr ov (pk F (y.K.drop F) lo hi k) ∧ Below w.heap.size w wr ∧ ∀ b, ov.ownBlock = some b → w.heap.size < b) (fun _ iv _ => F + n - (intOf iv).toNat)
  case atStart => exact ⟨0, by omega, rfl, hbox, hK1, On.nil _ _ _, hB1, fun k hk => by simp [Value.ownBlock] at hk⟩
  case round =>
    clear hbox hK1 hB1 k0 k1 k2 k3 k4 k5
    obtain ⟨k, hk, rfl, hbox, hK1, hO, hB, hOb⟩ := hrel
    obtain ⟨k0, k1, k2, k3, k4, k5⟩ := hbox.cells
    have hlen := pk_len F (y.K.drop F) lo hi k
    obtain ⟨ao, co, rfl, hlco, hcmo⟩ := hO.slice
    by_cases hlt2 : k < n
    · have hnn := HN.out
      obtain ⟨g, cap, e1, hg⟩ := hK1.ints (by omega)
      cases e1
      have hcj := hg (F + k) (by omega)
      have hi1 : ((F + k : Nat) : Int) < (y.K.length : Int) := by omega
      have hi2 : (0 : Int) ≤ ((F + k : Nat) : Int) := by omega
      have hnth : nth (y.K.drop F) k = nth y.K (F + k) := by simp [nth]
      have hsm : F + k ≤ 500000 := by omega
      have hkb : k ≤ 500000 := by omega
      clear hg hnn
      obtain ⟨i, hi⟩ : ∃ i, i = F + k := ⟨_, rfl⟩
      have hci : ((F : Int) + (k : Int)) = (i : Int) := by omega
      have HI := Lib.hid hi
      rw [← hi] at hcj hi1 hi2 hnth hsm ⊢
      clear hi
      by_cases hc : lo ≤ (i : Int) ∧ (i : Int) < hi
      · have hpk : pk F (y.K.drop F) lo hi (k + 1) = pk F (y.K.drop F) lo hi k ++ [nth y.K i] := by rw [pk, if_pos (by rw [hci]; exact hc), hnth]
        have HPK := Lib.hid hpk
        obtain ⟨c1, c2⟩ := hc
        clear hpk hnth hci
        generalize pk F (y.K.drop F) lo hi k = out at hO HPK hlen hOb
        go_wp2_with (at_builtin; refine wpList_append_on _ rfl (.tmp 26) (.tmp 32) _ rfl 30 i0 _ 1 2 Try.underlying22 hi0 hz0 hz1 hz2 rfl (by omega) (.slice ao out.length co) _ _ rfl (On.alloc hO (.cells #[.int .u16 (nth y.K i)] 30)) _ 1 1 [.int .u16 (nth y.K i)] rfl rfl (.inr ⟨_, rfl, cell_one_new _ _ _⟩) (by simp [Value.oneCell']) (by simp only [maxLen]; omega) (by omega) ?_; intro v' W4 hown4 hg4 hat4)
        go_roundw
        case rel =>
          have hs := hB.size
          refine ⟨k + 1, by omega, by have := HI.out; simp <;> omega, ?_, ?_, ?_, ?_, ?_⟩
          · exact Blk.grown (Blk.alloc hbox _) hg4 (fun e => by have := hOb _ e.symm; omega)
          · refine On.grown (On.alloc hK1 _) hg4 ?_
            cases hb9 : (Value.slice (some ⟨g, 0, none⟩) y.K.length c).ownBlock with
            | none => exact .inl rfl
            | some g9 => exact .inr (fun e => by have := hOb g9 e.symm; have := hlt g9 hb9; omega)
          · rw [HPK.out]; unfold L; simpa using hown4
          · exact (hB.alloc hs _).grown hg4 (by simp; omega) (fun k hk => Nat.le_of_lt (hOb k hk))
          · intro k hk
            rcases hat4 with e | e
            · exact hOb k (e ▸ hk)
            · rw [e] at hk; cases hk; have := Blk.lt hbox; simp; omega
        case measure => have := HI.out; simp [intOf]; omega
      · have hpk : pk F (y.K.drop F) lo hi (k + 1) = pk F (y.K.drop F) lo hi k := by rw [pk, if_neg (by rw [hci]; exact hc)]
        have HPK := Lib.hid hpk
        clear hpk hnth hci
        by_cases c1 : lo ≤ (i : Int)
        · have c2 : ¬ (i : Int) < hi := fun h => hc ⟨c1, h⟩
          clear hc
          go_wp2_with fail
          go_roundw
          case rel => exact ⟨k + 1, by omega, by have := HI.out; simp <;> omega, hbox, hK1, by rw [HPK.out]; exact hO, hB, hOb⟩
          case measure => have := HI.out; simp [intOf]; omega
        · have c2 : decide (lo ≤ (i : Int)) = false := by simpa using c1
          clear hc
          go_wp2_with fail
          go_roundw
          case rel => exact ⟨k + 1, by omega, by have := HI.out; simp <;> omega, hbox, hK1, by rw [HPK.out]; exact hO, hB, hOb⟩
          case measure => have := HI.out; simp [intOf]; omega
    · obtain rfl : k = n := by omega
      have hnn : ¬ ((F + k : Nat) : Int) < (y.K.length : Int) := by have := HN.out; omega
      go_wp2_with fail
      go_ret
      exact ⟨_, rfl, hO, hB, fun b hb => Nat.le_of_lt (hOb b hb)⟩
end Go.Proofs.Ythdppaohagghbaa.InputqP
