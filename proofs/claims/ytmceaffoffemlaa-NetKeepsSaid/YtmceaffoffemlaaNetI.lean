/-
  NetKeeps: the walk.
-/
import Derived.Test.YtmceaffoffemlaaNetH
namespace Go.Proofs.Ytmceaffoffemlaa.Netw
open Go.RowKit
set_option linter.all false

theorem row_src {k : IntKind} {W : World} {a : Option Addr} {l : Nat} {zs : List Int} (h : Row k W a l zs) : Src W a l (zs.map (.int k)) := by
  by_cases h0 : l = 0
  · subst h0
    exact .inl ⟨rfl, by simp [List.eq_nil_of_length_eq_zero h.1]⟩
  · obtain ⟨b, off, rfl, hb, hc⟩ := h.2 (by omega)
    refine .inr ⟨_, rfl, fun j u hu => ?_⟩
    have hj : j < l := by
      have := (List.getElem?_eq_some_iff.1 hu).1
      simpa [h.1] using this
    have hadd : (⟨b, off, none⟩ : Addr).add j = ⟨b, off + j, none⟩ := by unfold Addr.add; split <;> simp_all
    have hjz : j < zs.length := by rw [h.1]; exact hj
    have e := hc j hj
    rw [hadd, e]
    simpa [nth, List.getD, hjz] using hu
/-- The argument's list of slices. -/
def LRow (w : World) (a : Option Addr) (n : Nat) (rs : List R) : Prop :=
  rs.length = n ∧ (∀ r ∈ rs, Reads w r) ∧ (0 < n → ∃ b off, a = some ⟨b, off, none⟩ ∧ b < w.heap.size ∧ ∀ j r, rs[j]? = some r → w.cell? ⟨b, off + j, none⟩ = some r.1)
theorem sl_info : (Try.prog.info? 27).map (fun i => (i.zero, i.size, i.bytes)) = some (some (.slice none 0 0), 1, 24) := by kernel_rfl
theorem take_snoc {α : Type} {l : List α} {k : Nat} {x : α} (h : l[k]? = some x) : l.take (k + 1) = l.take k ++ [x] := by
  rw [List.take_add_one, h]; rfl
theorem src_after {W W' : World} {g n : Nat} {xs : List Value} (h : Src W (some ⟨g, 0, none⟩) n xs) (hg : g < W.heap.size) (hb : Below W.heap.size W W') : Src W' (some ⟨g, 0, none⟩) n xs := by
  rcases h with h | ⟨ad, e, h⟩
  · exact .inl h
  · cases e
    refine .inr ⟨_, rfl, fun j u hu => ?_⟩
    have := h j u hu
    rw [← this]
    refine hb.cell ?_
    unfold Addr.add; split <;> simp_all
theorem left_one {w : World} {rs : List R} (h : ∀ r ∈ rs, Reads w r) : ∀ u ∈ rs.map (·.1), u.oneCell' = true := by
  intro u hu
  obtain ⟨r, hr, rfl⟩ := List.mem_map.1 hu
  obtain ⟨a, l, c, e, _⟩ := h r hr
  rw [e]; rfl
theorem left_fin {w w6 w7 w8 : World} {B n m : Nat} {s : NS} {ms rs : List R} {lv v1 v2 : Value} (h : KI w B n s ms rs lv w6) (hm : m < rs.length) (hb7 : Below w6.heap.size w6 w7)
    (hat1 : v1.ownBlock = some w6.heap.size ∨ v1.ownBlock = some (w6.heap.size + 1)) (hlt : ∀ g, v1.ownBlock = some g → g < w7.heap.size)
    (hown2 : On w8 27 1 v2 (m + (rs.length - (m + 1))) ((rs.map (·.1)).take (m * 1) ++ (rs.map (·.1)).drop (m + 1))) (hg2 : w7.grownBy w8 v1.ownBlock) (hat2 : v2.ownBlock = v1.ownBlock ∨ v2.ownBlock = some w7.heap.size) :
    KI w B n s ms (rs.eraseIdx m) v2 w8 := by
  have hb8 : Below w6.heap.size w6 w8 := hb7.grown hg2 hb7.size (fun g hg => by rcases hat1 with e | e <;> rw [e] at hg <;> cases hg <;> omega)
  have e1 : m + (rs.length - (m + 1)) = (rs.eraseIdx m).length := by rw [List.length_eraseIdx, if_pos hm]; omega
  have e2 : (rs.map (·.1)).take (m * 1) ++ (rs.map (·.1)).drop (m + 1) = (rs.eraseIdx m).map (·.1) := by
    rw [Nat.mul_one, ← List.map_take, ← List.map_drop, ← List.map_append, ← List.eraseIdx_eq_take_drop_succ]
  rw [e1, e2] at hown2
  refine h.touch (Touch.of_below hb8) hown2 (fun g hg => .inr ?_)
  rcases hat2 with e | e
  · rw [e] at hg
    rcases hat1 with e' | e' <;> rw [e'] at hg <;> cases hg <;> omega
  · rw [e] at hg; cases hg; exact hb7.size

set_option maxRecDepth 100000 in
set_option maxHeartbeats 8000000 in
theorem keeps_law (la oa : Option Addr) (ln lc on_ oc : Nat) (rs : List R) (os : List Int) (w : World) (hl : LRow w la ln rs) (ho : Row .i64 w oa on_ os) (hos : ∀ x ∈ os, -9223372036854775808 ≤ x ∧ x ≤ 9223372036854775807) (hln : ln ≤ 9223372036854775807) (hon : on_ ≤ 9223372036854775807) :
    Calls Try.prog 3 #[.slice la ln lc, .slice oa on_ oc] w fun e w' => e = .returned (.bool true) ∧ Below w.heap.size w w' := by
  obtain ⟨i1, hi1, hy0, hy1, hy2⟩ := info_parts sl_info
  go_enter Try.func3, Try.ntmps3
  go_wp2_with fail
  refine (awake_any w).mono ?_
  rintro e w1 ⟨rfl, hB1⟩
  go_wp2_with fail
  refine (new_at w1).mono ?_
  rintro e w2 ⟨rfl, hN, hB2⟩
  have hB : Below w.heap.size w w2 := hB1.trans (hB2.mono hB1.size)
  by_cases hbig : 100 < ln
  · have hbig' : (100 : Int) < (ln : Int) := by omega
    go_wp2_with fail
    go_ret
    exact ⟨rfl, hB⟩
  have hbig' : ¬ (100 : Int) < (ln : Int) := by omega
  have K0 : KI w w.heap.size w1.heap.size s0 [] [] (.slice none 0 0) w2 := ⟨hN, fun _ _ g hg => (by cases hg), ⟨rfl, fun j e r he _ => by simp [s0] at he⟩, On.nil _ _ _, fun g hg => (by cases hg), hB, hB1.size, hB.size⟩
  clear hN hB1 hB2
  generalize w1.heap.size = n at *
  go_wp2_with fail
  have HL := Lib.hid hl
  have HO := Lib.hid ho
  have HOS := Lib.hid hos
  clear hl ho hos
  go_loopw [6, 7] (fun lv iv wr => ∃ k : Nat, k ≤ ln ∧ iv = .int .i64 k ∧ ∃ s', KI w w.heap.size n s' (rs.take k) (rs.take k) lv wr ∧ s'.moved = 0) (fun _ iv _ => ln - (intOf iv).toNat)
  case atStart => exact ⟨0, Nat.zero_le _, rfl, s0, by simpa using K0, rfl⟩
  case round =>
    obtain ⟨k, hk, rfl, s, K, hmv⟩ := hrel
    by_cases hlt : k < ln
    · have hl := HL.out
      obtain ⟨r, hr⟩ : ∃ r, rs[k]? = some r := ⟨rs[k]'(by rw [hl.1]; exact hlt), List.getElem?_eq_getElem _⟩
      obtain ⟨ar, lr, cr, er, hrow, hlr⟩ := hl.2.1 r (List.mem_of_getElem? hr)
      obtain ⟨gb, ob, rfl, hgb, hcb⟩ := hl.2.2 (by omega)
      have hc := hcb k r hr
      rw [er] at hc
      have hr1 := hrow.1
      clear hl hcb
      have c1 : wr.cell? ⟨gb, ob + k, none⟩ = some (.slice ar lr cr) := (K.below.cell (p := ⟨gb, ob + k, none⟩) hgb).trans hc
      have i1' : (0 : Int) ≤ (k : Int) := by omega
      have i2' : (k : Int) < (ln : Int) := by omega
      by_cases hlong : 1400 < lr
      · have hlong' : (1400 : Int) < (lr : Int) := by omega
        have hbel := K.below
        clear K
        go_wp2_with fail
        go_ret
        exact ⟨rfl, hbel⟩
      · have hlong' : ¬ (1400 : Int) < (lr : Int) := by omega
        have hkl : (rs.take k).length = k := by rw [List.length_take]; have := HL.out.1; omega
        have p := Lib.hid (send_ok wr n 0 1 s ar lr cr (r.2.map (.int .u8)) K.net (by omega) (by omega) (by omega) (by simpa using hr1) (one_map _ _) (fun W hW => row_src (hrow.below (K.below.trans (hW.mono K.size)))) (by show (s.es 1).length < 128; rw [K.mails.len, hkl]; omega))
        have hleft : On wr 27 1 u6 k ((rs.take k).map (·.1)) := by have := K.left; rwa [hkl] at this
        obtain ⟨al, cl, rfl, hlc, hcm⟩ := hleft.slice
        have KK := Lib.hid K
        have HH := Lib.hid hc
        clear K hkl hc
        go_wp2_with fail
        refine p.out.mono ?_
        rintro e w3 ⟨rfl, hS⟩
        obtain ⟨s3, K3, hm3⟩ := KI.send KK.out (r := r) (by rw [hr1]; exact hS)
        clear hS
        have c3 : w3.cell? ⟨gb, ob + k, none⟩ = some (.slice ar lr cr) := (K3.below.cell (p := ⟨gb, ob + k, none⟩) hgb).trans HH.out
        have hkl : (rs.take k).length = k := by rw [List.length_take]; have := HL.out.1; omega
        have hl3 : On w3 27 1 (.slice al k cl) k ((rs.take k).map (·.1)) := by have := K3.left; rwa [hkl] at this
        have K3 := Lib.hid K3
        clear hkl
        have hq1 : k + 1 ≤ maxLen := by simp only [maxLen]; omega
        go_wp2_with (at_builtin; refine wpList_append_on _ rfl (.tmp 43) (.tmp 48) _ rfl 27 i1 _ 1 24 Try.underlying22 hi1 hy0 hy1 hy2 rfl (by omega) (.slice al k cl) _ _ rfl (hl3.alloc (.cells #[.slice ar lr cr] 27)) _ 1 1 [.slice ar lr cr] rfl rfl (.inr ⟨_, rfl, cell_one_new _ _ _⟩) (by simp [Value.oneCell']) hq1 (by omega) ?_; intro v' w4 hown4 hg4 hat4; obtain ⟨a', c', rfl, hlc', hcm'⟩ := hown4.slice)
        go_roundw
        case rel =>
          have e1 := take_snoc hr
          have e2 : ((rs.take k).map (fun x => x.1) ++ [Value.slice ar lr cr]) = (rs.take (k + 1)).map (·.1) := by rw [e1, List.map_append, ← er]; rfl
          have e3 : (rs.take (k + 1)).length = k + 1 := by rw [List.length_take]; have := HL.out.1; omega
          have K4 := K3.out.touch (rs' := rs.take (k + 1)) (Touch.grown ((Touch.refl _ w3).alloc _) hg4 (fun g hg => .inl hg)) (by rw [e3, ← e2]; exact hown4) (fun g hg => (by
            rcases hat4 with e | e
            · exact .inl (e ▸ hg)
            · rw [e] at hg; cases hg; exact .inr (by simp)))
          rw [← e1] at K4
          exact ⟨k + 1, by omega, by go_num, s3, K4, by rw [hm3]; exact hmv⟩
        case measure => simp [intOf]; omega
    · obtain rfl : k = ln := by omega
      have hrs : rs.take k = rs := List.take_of_length_le (by rw [HL.out.1]; omega)
      rw [hrs] at K
      have K1 := Lib.hid K
      obtain ⟨al, cl, rfl, hlc, hcm⟩ := K.left.slice
      clear hrs K
      have HR := Lib.hid HL.out.2.1
      have HN := Lib.hid (show rs.length ≤ 100 by have := HL.out.1; omega)
      clear HL K0
      go_wp2_with fail
      go_loopw [6, 8] (fun lv iv W => ∃ (j : Nat) (s : NS) (rs' : List R), j ≤ on_ ∧ iv = .int .i64 j ∧ KI w w.heap.size n s rs' rs' lv W ∧ rs'.length ≤ 100 ∧ (∀ r ∈ rs', Reads w r) ∧ s.moved = j ∧ j ≤ 200) (fun _ iv _ => on_ - (intOf iv).toNat)
      case atStart => exact ⟨0, s, rs, Nat.zero_le _, rfl, K1.out, HN.out, HR.out, hmv, by omega⟩
      case round =>
        obtain ⟨j, s2, rs', hj, rfl, K, hle, hrd, hmv2, hj200⟩ := hrel
        obtain ⟨al2, cl2, rfl, hlc2, hcm2⟩ := K.left.slice
        have hml := K.mails.len
        by_cases hgo : j < on_ ∧ 0 < rs'.length ∧ j < 200
        · obtain ⟨g1, g2, g3⟩ := hgo
          have ho := HO.out
          obtain ⟨gb, ob, rfl, hgb, hcb⟩ := ho.2 (by omega)
          have hc := hcb j g1
          have hxb : -9223372036854775808 ≤ nth os j ∧ nth os j ≤ 9223372036854775807 := HOS.out _ (by
            have : j < os.length := by rw [ho.1]; exact g1
            simp [nth, List.getD, this])
          clear ho hcb
          generalize nth os j = x at hc hxb
          have hlen : (s2.es 1).length = rs'.length := hml
          have m1 := Int.emod_nonneg x (show (rs'.length : Int) ≠ 0 by omega)
          have m2 := Int.emod_lt_of_pos x (show (0 : Int) < (rs'.length : Int) by omega)
          obtain ⟨m, hm⟩ : ∃ m : Nat, x % (rs'.length : Int) = m := ⟨(x % (rs'.length : Int)).toNat, by omega⟩
          have hml2 : m < rs'.length := by omega
          have hT := tmod_cases x rs'.length g2
          rw [hm] at hT
          have hwx : IntKind.i64.wrap (Int.tmod x (rs'.length : Int)) = Int.tmod x (rs'.length : Int) := IntWalk.i64_in _ (by omega)
          have hwm : IntKind.i64.wrap (m : Int) = m := IntWalk.i64_in _ (by omega)
          obtain ⟨r, hr⟩ : ∃ r, rs'[m]? = some r := ⟨rs'[m]'hml2, List.getElem?_eq_getElem _⟩
          obtain ⟨e, he⟩ : ∃ e, (s2.es 1)[m]? = some e := ⟨(s2.es 1)[m]'(by omega), List.getElem?_eq_getElem _⟩
          obtain ⟨ar, lr, cr, er, hrow, hlr⟩ := hrd r (List.mem_of_getElem? hr)
          have hrl := hrow.1
          subst hrl
          have p := Lib.hid (move_ok wr n 0 1 m x s2 e K.net (by omega) (by omega) hxb he (by show x % (((s2.es 1).length : Nat) : Int) = m; rw [hlen]; exact hm) (by show (s2.es 1).length ≤ 128; omega) K.one (by omega))
          have c1 : wr.cell? ⟨gb, ob + j, none⟩ = some (.int .i64 x) := (K.below.cell (p := ⟨gb, ob + j, none⟩) hgb).trans hc
          obtain ⟨ae, ce, ee, _⟩ := (K.mails.on m e r he hr).1.slice
          rw [ee] at p
          have j1 : (0 : Int) ≤ (j : Int) := by omega
          have j2 : (j : Int) < (on_ : Int) := by omega
          have j3 : (0 : Int) < (rs'.length : Int) := by omega
          have j4 : (j : Int) < 200 := by omega
          have j5 : ¬ ((rs'.length : Int) = 0) := by omega
          have j6 : (0 : Int) ≤ (m : Int) := by omega
          have j7 : (m : Int) < (rs'.length : Int) := by omega
          have KK := Lib.hid K
          have HH := Lib.hid hc
          have HE := Lib.hid hlen
          have HM := Lib.hid hml2
          clear K hc hlen m1 m2 hml
          rcases hT with ⟨t1, t2⟩ | ⟨t1, t2⟩
          all_goals
            go_wp2_with fail
            refine p.out.mono ?_
            rintro e5 w5 ⟨rfl, hS⟩
            obtain ⟨s5, K5, hm5⟩ := KI.move KK.out hS
            have hd5 := moved_data KK.out hS he hr
            rw [ee] at hd5
            have rowE := On.row hd5
            have rowL := hrow.below K5.below
            have hl5 := K5.left
            rcases hl5.form with ⟨_, h0, _⟩ | ⟨gl, cl3, e3, hlc3, hcm3, hown3, hgl, hcl, hfl⟩
            · omega
            cases e3
            have c5 := hcl m (.slice ar r.2.length cr) (by rw [List.getElem?_map, hr, ← er]; rfl)
            have p2 := Lib.hid (same_bytes w5 ae ar r.2.length ce cr r.2 rowE rowL hlr)
            have K5 := Lib.hid K5
            clear hS hd5 rowE rowL hl5 hcl hfl K1 p
            go_wp2_with fail
            refine p2.out.mono ?_
            rintro e6 w6 ⟨rfl, hb6⟩
            have K6 := K5.out.after hb6
            have hl6 := K6.left
            have K6 := Lib.hid K6
            have FIN := Lib.hid (fun (w7 w8 : World) (v1 v2 : Value) q1 q2 q3 q4 q5 q6 => left_fin (w7 := w7) (w8 := w8) (v1 := v1) (v2 := v2) K6.out HM.out q1 q2 q3 q4 q5 q6)
            go_upto_region 24 with fail
            clear p2 hb6 c5
            have f1 : On (w6.alloc (.cells #[] 27)) 27 1 (.slice (some ⟨w6.heap.size, 0, none⟩) 0 0) 0 [] := On.empty _ _ _
            have hone := Lib.hid (left_one hrd)
            have hgl6 : gl < w6.heap.size := hl6.lt gl rfl
            have hsrc1 := Lib.hid (src_after ((hl6.cut (k := m) (by omega)).src) hgl6 ((Below.refl _ w6).alloc (Nat.le_refl _) (.cells #[] 27)))
            have hs1 : (m : Int) + 1 ≤ (rs'.length : Int) := by omega
            have hs2 : (0 : Int) ≤ (m : Int) + 1 := by omega
            have hs3 : (m : Int) ≤ (cl2 : Int) := by omega
            have hs4 : (rs'.length : Int) ≤ (cl2 : Int) := by omega
            have hw1 : IntKind.i64.wrap ((m : Int) + 1) = ((m + 1 : Nat) : Int) := by rw [IntWalk.i64_in _ (by omega)]; omega
            have hq1 : 0 + m ≤ maxLen := by simp only [maxLen]; omega
            have hq2 : (0 + m) * 24 ≤ 140737488355328 := by omega
            have hq3 : m + (rs'.length - (m + 1)) ≤ maxLen := by simp only [maxLen]; omega
            have hq4 : (m + (rs'.length - (m + 1))) * 24 ≤ 140737488355328 := by omega
            have hn1 := Lib.hid (show ((rs'.map (·.1)).take (m * 1)).length = m * 1 by rw [List.length_take, List.length_map]; omega)
            have hn2 := Lib.hid (show ((rs'.map (·.1)).drop (m + 1)).length = (rs'.length - (m + 1)) * 1 by rw [List.length_drop, List.length_map, Nat.mul_one])
            by_cases hcm : cl2 = m + 1
            · have hlm := Lib.hid (show rs'.length = m + 1 by omega)
              have hlm1 : (m : Int) ≤ (m : Int) + 1 := by omega
              have hlm2 : (rs'.length : Int) ≤ (m : Int) + 1 := by omega
              have HZ := Lib.hid (show rs'.length - (m + 1) = 0 by omega)
              have HD := Lib.hid (show (rs'.map (·.1)).drop (m + 1) = [] from List.eq_nil_of_length_eq_zero (by rw [hn2.out, HZ.out, Nat.zero_mul]))
              go_region_law (first
                | (refine step_append_on _ (by rfl) (.tmp 98) (.tmp 101) _ (by rfl) 27 i1 _ 1 24 Try.underlying22 hi1 hy0 hy1 hy2 rfl (by omega) (.slice (some ⟨w6.heap.size, 0, none⟩) 0 0) 0 [] (by rfl) (by exact f1) (some ⟨gl, 0, none⟩) m (m + 1) ((rs'.map (·.1)).take (m * 1)) (by rfl) (by exact hn1.out) (by exact hsrc1.out) (fun u hu => hone.out u (List.mem_of_mem_take hu)) hq1 hq2 ?_; intro v1 w7 hown1 hg1 hat1; rw [Nat.zero_add, List.nil_append] at hown1; have hb7 : Below w6.heap.size w6 w7 := ((Below.refl _ w6).alloc (Nat.le_refl _) (.cells #[] 27)).grown (w := _) ⟨hg1.os, hg1.tape, hg1.output, hg1.size, hg1.block⟩ (by simp) (fun g hg => by simp [Value.ownBlock] at hg; omega); obtain ⟨a7, c7, rfl, hlc7, hcm7⟩ := hown1.slice)
                | (refine step_append_on _ (by rfl) (.tmp 102) (.tmp 106) _ (by rfl) 27 i1 _ 1 24 Try.underlying22 hi1 hy0 hy1 hy2 rfl (by omega) (.slice a7 m c7) m _ (by rfl) (by exact hown1) (some ⟨gl, 0, none⟩) (rs'.length - (m + 1)) 0 ((rs'.map (·.1)).drop (m + 1)) (by rfl) (by exact hn2.out) (by exact .inl ⟨HZ.out, HD.out⟩) (fun u hu => hone.out u (List.mem_of_mem_drop hu)) hq3 hq4 ?_; intro v2 w8 hown2 hg2 hat2; obtain ⟨a8, c8, rfl, hlc8, hcm8⟩ := hown2.slice))
              all_goals
                go_wp2_with fail
                go_roundw
                case rel =>
                  have K8 := FIN.out w7 w8 _ _ hb7 (by rcases hat1 with e | e; exact .inl e; exact .inr (by simpa using e)) (fun g hg => hown1.lt g hg) hown2 ⟨hg2.os, hg2.tape, hg2.output, hg2.size, hg2.block⟩ hat2
                  exact ⟨j + 1, s5, rs'.eraseIdx m, by omega, by go_num, K8, by rw [List.length_eraseIdx]; split <;> omega, fun r hr => hrd r ((List.eraseIdx_sublist _ _).subset hr), by rw [hm5, hmv2]; push_cast; rfl, by omega⟩
                case measure => simp [intOf]; omega
            · go_region_law (first
                | (refine step_append_on _ (by rfl) (.tmp 98) (.tmp 101) _ (by rfl) 27 i1 _ 1 24 Try.underlying22 hi1 hy0 hy1 hy2 rfl (by omega) (.slice (some ⟨w6.heap.size, 0, none⟩) 0 0) 0 [] (by rfl) (by exact f1) (some ⟨gl, 0, none⟩) m cl2 ((rs'.map (·.1)).take (m * 1)) (by rfl) (by exact hn1.out) (by exact hsrc1.out) (fun u hu => hone.out u (List.mem_of_mem_take hu)) hq1 hq2 ?_; intro v1 w7 hown1 hg1 hat1; rw [Nat.zero_add, List.nil_append] at hown1; have hb7 : Below w6.heap.size w6 w7 := ((Below.refl _ w6).alloc (Nat.le_refl _) (.cells #[] 27)).grown (w := _) ⟨hg1.os, hg1.tape, hg1.output, hg1.size, hg1.block⟩ (by simp) (fun g hg => by simp [Value.ownBlock] at hg; omega); obtain ⟨a7, c7, rfl, hlc7, hcm7⟩ := hown1.slice)
                | (refine step_append_on _ (by rfl) (.tmp 102) (.tmp 106) _ (by rfl) 27 i1 _ 1 24 Try.underlying22 hi1 hy0 hy1 hy2 rfl (by omega) (.slice a7 m c7) m _ (by rfl) (by exact hown1) (some ⟨gl, m + 1, none⟩) (rs'.length - (m + 1)) (cl2 - (m + 1)) ((rs'.map (·.1)).drop (m + 1)) (by rfl) (by exact hn2.out) (by exact src_drop (hl6.below hb7 hl6.lt) (m + 1)) (fun u hu => hone.out u (List.mem_of_mem_drop hu)) hq3 hq4 ?_; intro v2 w8 hown2 hg2 hat2; obtain ⟨a8, c8, rfl, hlc8, hcm8⟩ := hown2.slice))
              all_goals
                go_wp2_with fail
                go_roundw
                case rel =>
                  have K8 := FIN.out w7 w8 _ _ hb7 (by rcases hat1 with e | e; exact .inl e; exact .inr (by simpa using e)) (fun g hg => hown1.lt g hg) hown2 ⟨hg2.os, hg2.tape, hg2.output, hg2.size, hg2.block⟩ hat2
                  exact ⟨j + 1, s5, rs'.eraseIdx m, by omega, by go_num, K8, by rw [List.length_eraseIdx]; split <;> omega, fun r hr => hrd r ((List.eraseIdx_sublist _ _).subset hr), by rw [hm5, hmv2]; push_cast; rfl, by omega⟩
                case measure => simp [intOf]; omega
        · obtain ⟨a1, c1, _, hc1⟩ := K.net.slice (k := 1) (by omega)
          have p := Lib.hid (len_in wr n 0 1 _ c1 a1 (by omega) (by omega) hc1)
          have hbel := K.below
          clear K hc1
          have hcase : ¬ (j : Int) < (on_ : Int) ∨ ((j : Int) < (on_ : Int) ∧ ¬ (0 : Int) < (rs'.length : Int)) ∨ ((j : Int) < (on_ : Int) ∧ (0 : Int) < (rs'.length : Int) ∧ ¬ (j : Int) < 200) := by omega
          clear hgo
          rcases hcase with q1 | ⟨q1, q2⟩ | ⟨q1, q2, q3⟩
          all_goals
            go_wp2_with fail
            refine p.out.mono ?_
            rintro e w' ⟨rfl, rfl⟩
            go_wp2_with fail
            go_ret
            exact ⟨rfl, hbel⟩
end Go.Proofs.Ytmceaffoffemlaa.Netw
