/-
  backstayref31: put, Bytes. Conditions: the inputs lie in memory, at most 20000.
-/
import Derived.Test.YtblnfkhaicjeaaaSpC
import Derived.Test.YtblnfkhaicjeaaaRput
import Derived.Test.YtblnfkhaicjeaaaCrcF
namespace Go.Proofs.Ytblnfkhaicjeaaa.Spe
open Go.RowKit Go.Sort Go.Proofs.Ytblnfkhaicjeaaa.Num Go.Proofs.Ytblnfkhaicjeaaa.Byt Go.Proofs.Ytblnfkhaicjeaaa.Gm
set_option linter.all false

theorem endB2 (u : Nat) : endB u 2 = be2 u := by
  simp only [endB, be2, List.cons.injEq]
  refine ⟨?_, ?_, trivial⟩ <;> omega
theorem endB1 (u : Nat) : endB u 1 = [(u : Int) % 256] := by
  simp [endB]

set_option maxRecDepth 100000 in
set_option maxHeartbeats 4000000 in
theorem rbytesN_any (w : World) (u n : Nat) (hu : u < 18446744073709551616) (hn : n = 4 ∨ n = 2 ∨ n = 1) :
    Calls Try.prog 60 #[.int .u64 u, .int .i64 n] w (Made w n (endB u n)) := by
  have hmk : ∀ W : World, (Instr.makeSlice 40 (.int .i64 (n : Int)) (.int .i64 (n : Int))).run Try.prog W = .ok (.slice (some ⟨W.heap.size, 0, none⟩) n n) (W.alloc (.cells (partB u n 0).toArray 5)) := by
    intro W
    rcases hn with rfl | rfl | rfl
    · show _ = _; kernel_rfl
    · show _ = _; kernel_rfl
    · show _ = _; kernel_rfl
  have hn1 : n ≤ 8 := by omega
  have h0 : On (w.alloc (.cells (partB u n 0).toArray 5)) 5 1 (.slice (some ⟨w.heap.size, 0, none⟩) n n) n (partB u n 0) :=
    ⟨by rw [partB_len u n 0 (Nat.zero_le _)]; omega, .inr ⟨w.heap.size, n, _, rfl, heap_new w _, Nat.le_refl _, by simp only [maxLen]; omega, by simp [partB_len u n 0 (Nat.zero_le _)], by rw [Nat.mul_one]; show List.take n (partB u n 0) = _; exact List.take_of_length_le (by rw [partB_len u n 0 (Nat.zero_le _)]; exact Nat.le_refl _)⟩⟩
  have hB0 : Below w.heap.size w (w.alloc (.cells (partB u n 0).toArray 5)) := (Below.refl _ w).alloc (Nat.le_refl _) _
  have hw1 : IntKind.i64.wrap ((n : Int) - 1) = (n : Int) - 1 := IntWalk.i64_in _ (by omega)
  have hpos : 0 < n := by omega
  go_enter Try.func60, Try.ntmps60
  go_wp2_with fail
  generalize w.alloc (.cells (partB u n 0).toArray 5) = W1 at *
  clear hmk
  go_loopw [0, 6] (fun uv iv wr => ∃ j : Nat, j ≤ n ∧ iv = .int .i64 ((n : Int) - 1 - (j : Int)) ∧ uv = .int .u64 ((u / 256 ^ j : Nat) : Int) ∧ On wr 5 1 (.slice (some ⟨w.heap.size, 0, none⟩) n n) n (partB u n j) ∧ Below w.heap.size w wr) (fun _ iv _ => (intOf iv + 1).toNat)
  case atStart => exact ⟨0, by omega, by simp, by simp, h0, hB0⟩
  case round =>
    clear h0 hB0
    obtain ⟨j, hj, rfl, rfl, hO, hB⟩ := hrel
    by_cases hlt : j < n
    · obtain ⟨i, hi⟩ : ∃ i : Nat, (n : Int) - 1 - (j : Int) = (i : Int) := ⟨n - j - 1, by omega⟩
      have hi2 : i = n - j - 1 := by omega
      rw [hi]
      have i1 : (i : Int) < (n : Int) := by omega
      have i0 : (0 : Int) ≤ (i : Int) := by omega
      have hset := hO.store i (.int .u8 ((u / 256 ^ j % 256 : Nat) : Int))
      rw [hi2, partB_set u n j hlt, ← hi2] at hset
      have hdiv : u / 256 ^ j / 256 = u / 256 ^ (j + 1) := by rw [Nat.div_div_eq_div_mul, ← Nat.pow_succ]
      have HD := Lib.hid hdiv
      have hle : u / 256 ^ j ≤ u := Nat.div_le_self _ _
      have hB2 : Below w.heap.size w (wr.setCell ⟨w.heap.size, i, none⟩ (.int .u8 ((u / 256 ^ j % 256 : Nat) : Int))) := hB.setCell (Nat.le_refl _) _
      rcases hO.form with ⟨hv, _⟩ | ⟨g, cap, hv, hnc, hcm, how, hgl, hcell, hfr⟩
      · cases hv
      · cases hv
        have hlen := partB_len u n j hj
        have ci := hcell i ((partB u n j)[i]'(by omega)) (List.getElem?_eq_getElem (by omega))
        have fi := hfr i
        have HI := Lib.hid hi
        generalize (partB u n j)[i]'_ = old at ci
        have HS := Lib.hid hset
        have HB := Lib.hid hB2
        generalize u / 256 ^ j = x at *
        have hwx : IntKind.u8.wrap ((x : Int) % 256) = (x : Int) % 256 := IntWalk.u8_in _ (by omega)
        clear hi hi2 hset hdiv hB2 hO hB hcell hfr how hnc hcm hlen
        go_wp2_with fail
        go_roundw
        case rel => exact ⟨j + 1, by omega, by have := HI.out; (first | (congr 1; omega) | congr 1), by rw [← HD.out]; (try congr 1), by simpa using HS.out, by simpa using HB.out⟩
        case measure => have := HI.out; simp [intOf] <;> omega
    · obtain rfl : j = n := by omega
      rw [show (j : Int) - 1 - (j : Int) = -1 by omega]
      have HO := Lib.hid hO
      clear hO
      go_wp2_with fail
      go_ret
      refine ⟨_, rfl, ?_, hB, fun g hg => by cases hg; exact Nat.le_refl _⟩
      have := HO.out
      unfold partB at this
      rwa [Nat.sub_self] at this

set_option maxRecDepth 100000 in
set_option maxHeartbeats 2000000 in
theorem rput31_any (w W : World) (v : Value) (xs : List Int) (u n : Nat) (h : Grow w v xs W) (hl : xs.length ≤ 900000) (hu : u < 18446744073709551616) (hn : n = 4 ∨ n = 2 ∨ n = 1) :
    Calls Try.prog 96 #[v, .int .u64 (u : Int), .int .i64 (n : Int)] W fun e w' => ∃ a c, e = .returned (.slice a (xs.length + n) c) ∧ Grow w (.slice a (xs.length + n) c) (xs ++ endB u n) w' ∧ Touch (OwnB v) W w' := by
  have p := Lib.hid (rbytesN_any W u n hu hn)
  have H := Lib.hid h
  have HL := Lib.hid hl
  have hn8 : n ≤ 8 := by omega
  clear h hl hn
  obtain ⟨i0, hi, hz0, hz1, hz2⟩ := info_parts info8
  go_enter Try.func96, Try.ntmps96
  go_wp2_with fail
  refine p.out.mono ?_
  rintro e w1 ⟨v1, rfl, o1, b1, g1⟩
  have hO := Lib.hid (On.below H.out.out b1 (On.lt H.out.out))
  obtain ⟨a1, c1, rfl, hc1, hm1⟩ := o1.slice
  have hsrc := o1.src
  have hel : (ub (endB u n)).length = n * 1 := by rw [ub_len, endB_len, Nat.mul_one]
  go_wp2_with (at_builtin; refine wpList_append_on _ (by rfl) _ _ 40 (by rfl) 5 i0 _ 1 1 Try.underlying40 hi hz0 hz1 hz2 (by rfl) (by omega) v xs.length (ub xs) (by rfl) hO.out a1 n c1 (ub (endB u n)) (by rfl) hel hsrc (ub_one _) (by have := HL.out; simp only [maxLen]; omega) (by have := HL.out; omega) ?_; intro v' w' hon hg hv')
  obtain ⟨a2, c2, hv2, -, -⟩ := On.slice hon
  subst hv2
  go_ret
  have hb1 := b1.size
  have ht : Touch (OwnB v) W w' := (Touch.of_below b1 : Touch (OwnB v) W w1).grown hg (fun k hk => .inl hk)
  refine ⟨a2, c2, rfl, ⟨?_, H.out.below.trans (ht.below H.out.below.size (fun k hk => H.out.own k hk)), fun g hg' => ?_⟩, ht⟩
  · unfold Out
    rw [List.length_append, endB_len, ub_app]
    exact hon
  · rcases hv' with e | e
    · exact H.out.own g (by rw [← e]; exact hg')
    · rw [e] at hg'; cases hg'; exact Nat.le_trans H.out.below.size hb1
end Go.Proofs.Ytblnfkhaicjeaaa.Spe
namespace Go.Proofs.Ytblnfkhaicjeaaa.Spe
open Go.RowKit Go.Shelf Go.Proofs.Ytblnfkhaicjeaaa.Byt Go.Proofs.Ytblnfkhaicjeaaa.Gm Go.Proofs.Ytblnfkhaicjeaaa.RingE Go.Proofs.Ytblnfkhaicjeaaa.Crc
set_option linter.all false
attribute [local go_sem] Oper.semAt_some

set_option maxRecDepth 100000 in
set_option maxHeartbeats 8000000 in
theorem rtbytes_any (w : World) (sd : Nat) (a : Option Addr) (cap : Nat) (ls : List (Nat × Nat)) (hrow : InRow w a ls) (hl : ls.length ≤ 20000) (hs1 : sd < 4294967296) :
    Calls Try.prog 46 #[.int .u32 (sd : Int), .slice a ls.length cap] w (Made w ((tapeB (sd : Int) ls).length + 4) (sealB (tapeB (sd : Int) ls))) := by
  have hG0 : Grow w (.slice none 0 0) [] w := ⟨Out.nil _, Below.refl _ _, fun k hk => by simp [Value.ownBlock] at hk⟩
  have p1' : ∀ W, Grow w (.slice none 0 0) [] W → Calls Try.prog 96 #[.slice none 0 0, .int .u64 16980, .int .i64 2] W fun e w' => ∃ a c, e = .returned (.slice a 2 c) ∧ Grow w (.slice a 2 c) (be2 16980) w' := fun W h =>
    (rput31_any w W _ [] 16980 2 h (by simp) (by omega) (by omega)).mono (by rintro e w' ⟨a, c, rfl, g, _⟩; rw [endB2] at g; exact ⟨a, c, rfl, g⟩)
  have p2' : ∀ W a c, Grow w (.slice a 2 c) (be2 16980) W → Calls Try.prog 96 #[.slice a 2 c, .int .u64 (sd : Int), .int .i64 4] W fun e w' => ∃ a c, e = .returned (.slice a 6 c) ∧ Grow w (.slice a 6 c) (be2 16980 ++ be4 sd) w' := fun W a c h =>
    (rput31_any w W _ (be2 16980) sd 4 h (by simp [be2]) (by omega) (by omega)).mono (by rintro e w' ⟨a, c, rfl, g, _⟩; rw [Gm.endB4] at g; exact ⟨a, c, rfl, g⟩)
  have p3' : ∀ W a c, Grow w (.slice a 6 c) (be2 16980 ++ be4 sd) W → Calls Try.prog 96 #[.slice a 6 c, .int .u64 (ls.length : Int), .int .i64 4] W fun e w' => ∃ a c, e = .returned (.slice a 10 c) ∧ Grow w (.slice a 10 c) (headB sd ls.length) w' := fun W a c h =>
    (rput31_any w W _ (be2 16980 ++ be4 sd) ls.length 4 h (by simp [be2, be4]) (by omega) (by omega)).mono (by rintro e w' ⟨a, c, rfl, g, _⟩; rw [Gm.endB4] at g; exact ⟨a, c, rfl, g⟩)
  have p1 := Lib.hid p1'
  have p2 := Lib.hid p2'
  have p3 := Lib.hid p3'
  have HG0 := Lib.hid hG0
  have HR := Lib.hid hrow
  have hw1 : IntKind.u64.wrap (sd : Int) = (sd : Int) := by simp [IntKind.wrap, IntKind.bits, IntKind.signed]; omega
  have hw2 : IntKind.u64.wrap (ls.length : Int) = (ls.length : Int) := by simp [IntKind.wrap, IntKind.bits, IntKind.signed]; omega
  clear p1' p2' p3' hG0 hrow
  go_enter Try.func46, Try.ntmps46
  go_wp2_with (first
    | (go_at_call 96; (with_reducible refine (p1.out _ HG0.out).mono ?_); rintro e w1 ⟨a1, c1, rfl, G1⟩)
    | (go_at_call 96; (with_reducible refine (p2.out _ _ _ G1).mono ?_); rintro e w2 ⟨a2, c2, rfl, G2⟩)
    | (go_at_call 96; (with_reducible refine (p3.out _ _ _ G2).mono ?_); rintro e w3 ⟨a3, c3, rfl, G3⟩)
    | fail)
  have G3' : Grow w (.slice a3 10 c3) (preB sd ls 0) w3 := by rw [preB_zero]; exact G3
  clear p1 p2 p3 hw1 G1 G2 G3
  have hl' : (ls.length : Int) ≤ 20000 := by omega
  have hRl : (runsL ls).length ≤ 20000 := Nat.le_trans (runsL_len _ ls (Nat.le_refl _)) hl
  clear hw2 HG0
  go_loopw [5, 6] (fun ov iv wr => ∃ (p k : Nat) (av : Option Addr) (cv : Nat), p ≤ ls.length ∧ iv = .int .i64 (p : Int) ∧ k ≤ (runsL ls).length ∧ (runsL ls).drop k = runsL (ls.drop p) ∧ ov = .slice av (10 + 5 * k) cv ∧ Grow w (.slice av (10 + 5 * k) cv) (preB sd ls k) wr) (fun _ i _ => ((ls.length : Int) - intOf i).toNat)
  case atStart => exact ⟨0, 0, a3, c3, Nat.zero_le _, rfl, Nat.zero_le _, by simp, rfl, G3'⟩
  case round =>
    clear G3'
    obtain ⟨p, k, av, cv, hp, rfl, hk, hdr, rfl, hG⟩ := hrel
    by_cases hlt : p < ls.length
    · have hlt' : (p : Int) < (ls.length : Int) := by omega
      obtain ⟨b, off, rfl, hbl, hcell⟩ := HR.out.2 (by omega)
      have hcl : ∀ V : World, Below w.heap.size w V → ∀ j x, ls[j]? = some x → V.cell? ⟨b, off + j * 2, none⟩ = some (.int .u16 (x.1 : Int)) ∧ V.cell? ⟨b, off + j * 2 + 1, none⟩ = some (.int .u16 (x.2 : Int)) := fun V hV j x hx => by
        obtain ⟨e0, e1⟩ := I2.inA_get hx
        have h2 := hcell j (List.getElem?_eq_some_iff.1 hx).1
        rw [e0, e1] at h2
        exact ⟨(hV.cell hbl).trans h2.1, (hV.cell hbl).trans h2.2⟩
      obtain ⟨x, hx⟩ : ∃ x, ls[p]? = some x := ⟨ls[p], List.getElem?_eq_getElem hlt⟩
      have hdx : ls.drop p = x :: ls.drop (p + 1) := by
        rw [List.drop_eq_getElem_cons hlt]
        rw [List.getElem?_eq_getElem hlt] at hx
        rw [Option.some.inj hx]
      have hbx := HR.out.1 x (List.mem_of_getElem? hx)
      obtain ⟨cx0, cx1⟩ := hcl wr hG.below p x hx
      obtain ⟨Nn, hNn⟩ : ∃ Nn, Nn = lead x 255 (ls.drop p) := ⟨_, rfl⟩
      have hNn2 : Nn = 1 + lead x 254 (ls.drop (p + 1)) := by rw [hNn, hdx, lead_yes]; omega
      have hNn3 : 0 + lead x (255 - 0) (ls.drop (p + 0)) = Nn := by rw [Nat.zero_add, Nat.add_zero, hNn]
      have HN3 := Lib.hid hNn3
      have HN := Lib.hid hNn2
      generalize wr = V at *
      have HG := Lib.hid hG
      have HCL := Lib.hid hcl
      have HDX := Lib.hid hdx
      have HX := Lib.hid hx
      have HDR := Lib.hid hdr
      have HBX := Lib.hid hbx
      have HBD := Lib.hid HR.out.1
      have hp0 : (0 : Int) ≤ (p : Int) := by omega
      clear hcl hcell hdx hx hNn hNn2 hNn3 hG hdr hbx HR
      go_upto_block 2 with fail
      go_cut [7] (fun n wx => n = .int .i64 (Nn : Int) ∧ ∃ d, wx = V.drewN d)
      case first =>
        go_wp2_with fail
        go_loopw [7] (fun n wr => ∃ m d : Nat, m ≤ 255 ∧ p + m ≤ ls.length ∧ n = .int .i64 (m : Int) ∧ m + lead x (255 - m) (ls.drop (p + m)) = Nn ∧ wr = V.drewN d) (fun n _ => (255 - intOf n).toNat)
        case atStart => exact ⟨0, 0, by omega, by omega, rfl, HN3.out, rfl⟩
        case round =>
          obtain ⟨m, d, hm2, hpm, rfl, hmn, rfl⟩ := hrel
          have hm0 : (0 : Int) ≤ (m : Int) := by omega
          obtain ⟨q, hq⟩ : ∃ q, q = p + m := ⟨_, rfl⟩
          have hwp : IntKind.i64.wrap ((p : Int) + (m : Int)) = (q : Int) := by
            rw [show (p : Int) + (m : Int) = (q : Int) by omega]
            exact IntWalk.i64_in _ (by omega)
          rw [← hq] at hmn
          have HQ := Lib.hid hq
          have hq0 : (0 : Int) ≤ (q : Int) := by omega
          by_cases c1 : m < 255
          · have c1' : (m : Int) < 255 := by omega
            by_cases c2 : q < ls.length
            · have c2' : (q : Int) < (ls.length : Int) := by omega
              obtain ⟨y, hy⟩ : ∃ y, ls[q]? = some y := ⟨ls[q], List.getElem?_eq_getElem c2⟩
              have hdy : ls.drop q = y :: ls.drop (q + 1) := by
                rw [List.drop_eq_getElem_cons c2]
                rw [List.getElem?_eq_getElem c2] at hy
                rw [Option.some.inj hy]
              obtain ⟨cy0, cy1⟩ := HCL.out V HG.out.below q y hy
              have hbx := HBX.out
              have hby := HBD.out y (List.mem_of_getElem? hy)
              have hEq0 := fun W => in_eql W y x hby hbx
              obtain ⟨x0, x1⟩ := x
              obtain ⟨y0, y1⟩ := y
              by_cases c3 : (y0, y1) = (x0, x1)
              · have hEq : ∀ W, (Op.equalIn 10000 48 (.agg #[.int .u16 (y0 : Int), .int .u16 (y1 : Int)]) (.agg #[.int .u16 (x0 : Int), .int .u16 (x1 : Int)])).run Try.prog W = .ok true W := fun W => by
                  have := hEq0 W
                  rw [decide_eq_true c3] at this
                  exact this
                clear hEq0
                obtain ⟨rfl, rfl⟩ := Prod.mk.inj c3
                have hnx := Lib.hid (show (m + 1) + lead (y0, y1) (255 - (m + 1)) (ls.drop (p + (m + 1))) = Nn by
                  rw [← hmn, hdy, show 255 - m = (255 - (m + 1)) + 1 by omega, lead_yes, show p + (m + 1) = q + 1 by omega]
                  omega)
                clear hmn hdy hy c3 hq hbx hby
                go_wp2_with fail
                go_quiet (fail)
                go_wp2_with fail
                exact ⟨⟨m + 1, _, by omega, by have := HQ.out; omega, by simp, hnx.out, rfl⟩, by simp [intOf]; omega⟩
              · have hnx := Lib.hid (show m = Nn by rw [← hmn, hdy, lead_no _ _ c3]; rfl)
                have hEq : ∀ W, (Op.equalIn 10000 48 (.agg #[.int .u16 (y0 : Int), .int .u16 (y1 : Int)]) (.agg #[.int .u16 (x0 : Int), .int .u16 (x1 : Int)])).run Try.prog W = .ok false W := fun W => by
                  have := hEq0 W
                  rw [decide_eq_false c3] at this
                  exact this
                clear hmn hdy hy hq c3 hEq0 hbx hby
                go_wp2_with fail
                go_quiet (fail)
                go_wp2_with fail
                go_meet
                exact ⟨by rw [hnx.out], d + nq, by simp⟩
            · have c2' : ¬ (q : Int) < (ls.length : Int) := by omega
              have hnx := Lib.hid (show m = Nn by
                have : ls.drop q = [] := List.drop_eq_nil_of_le (by omega)
                rw [← hmn, this, lead_nil]; rfl)
              clear hmn hq
              go_wp2_with fail
              go_quiet (fail)
              go_wp2_with fail
              go_meet
              exact ⟨by rw [hnx.out], d + nq, by simp⟩
          · have c1' : decide ((m : Int) < 255) = false := by simp; omega
            have hnx := Lib.hid (show m = Nn by
              rw [← hmn, show 255 - m = 0 by omega, lead_zero]; rfl)
            clear hmn hq
            go_wp2_with fail
            go_quiet (fail)
            go_wp2_with fail
            go_meet
            exact ⟨by rw [hnx.out], d + nq, by simp⟩
      case rest =>
        obtain ⟨rfl, d, rfl⟩ := hcut
        have hdr := HDR.out
        have hruns : runsL (ls.drop p) = (Nn, x) :: runsL ((ls.drop (p + 1)).drop (lead x 254 (ls.drop (p + 1)))) := by
          rw [HDX.out, runsL_cons, ← HN.out]
        have hkl : k < (runsL ls).length := by
          have := congrArg List.length hdr
          rw [hruns, List.length_drop, List.length_cons] at this
          omega
        have hat : runAt ls k = (Nn, x) := by
          have h2 : (runsL ls)[k]? = some (Nn, x) := by
            have := congrArg (fun l : List (Nat × (Nat × Nat)) => l[0]?) hdr
            simp only [List.getElem?_drop, Nat.add_zero, hruns] at this
            simpa using this
          unfold runAt
          rw [List.getD_eq_getElem?_getD, h2]
          rfl
        have hlead := (lead_le x 254 (ls.drop (p + 1)))
        rw [List.length_drop] at hlead
        have hnext : (runsL ls).drop (k + 1) = runsL (ls.drop (p + Nn)) := by
          have := congrArg (List.drop 1) hdr
          rw [hruns, List.drop_drop, List.drop_succ_cons, List.drop_zero, List.drop_drop] at this
          rw [this]
          congr 2
          have := HN.out
          omega
        have hN2 := HN.out
        have hpn : p + Nn ≤ ls.length ∧ 1 ≤ Nn ∧ Nn ≤ 255 := by omega
        have hpre := preB_succ (sd : Int) ls k hkl
        rw [hat] at hpre
        have hlen0 := preB_len (sd : Int) ls k hk
        obtain ⟨x0, x1⟩ := x
        obtain ⟨hx0, hx1⟩ := HBX.out
        simp only at hx0 hx1
        obtain ⟨L, hL⟩ : ∃ L, L = 10 + 5 * k := ⟨_, rfl⟩
        obtain ⟨L1, hL1⟩ : ∃ L1, L1 = L + 1 := ⟨_, rfl⟩
        obtain ⟨L2, hL2⟩ : ∃ L2, L2 = L + 3 := ⟨_, rfl⟩
        obtain ⟨L3, hL3⟩ : ∃ L3, L3 = L + 5 := ⟨_, rfl⟩
        have hfin : preB (sd : Int) ls (k + 1) = ((preB (sd : Int) ls k ++ [(Nn : Int) % 256]) ++ be2 (x0 : Int)) ++ be2 (x1 : Int) := by
          rw [hpre]; simp [runB]
        generalize preB (sd : Int) ls k = P0 at *
        obtain ⟨P1, hP1⟩ : ∃ P1, P1 = P0 ++ [(Nn : Int) % 256] := ⟨_, rfl⟩
        obtain ⟨P2, hP2⟩ : ∃ P2, P2 = P1 ++ be2 (x0 : Int) := ⟨_, rfl⟩
        rw [← hP1, ← hP2] at hfin
        have hG := HG.out
        rw [← hL] at hG
        have q1' : ∀ W, Grow w (.slice av L cv) P0 W → Calls Try.prog 96 #[.slice av L cv, .int .u64 (Nn : Int), .int .i64 1] W fun e w' => ∃ a c, e = .returned (.slice a L1 c) ∧ Grow w (.slice a L1 c) P1 w' := fun W h =>
          (rput31_any w W _ P0 Nn 1 h (by omega) (by omega) (by omega)).mono (by rintro e w' ⟨a, c, rfl, g, _⟩; rw [endB1, ← hP1, show P0.length + 1 = L1 by omega] at g; exact ⟨a, c, by rw [show P0.length + 1 = L1 by omega], g⟩)
        have hlen1 : P1.length = L1 := by rw [hP1]; simp; omega
        have q2' : ∀ W a c, Grow w (.slice a L1 c) P1 W → Calls Try.prog 96 #[.slice a L1 c, .int .u64 (x0 : Int), .int .i64 2] W fun e w' => ∃ a c, e = .returned (.slice a L2 c) ∧ Grow w (.slice a L2 c) P2 w' := fun W a c h =>
          (rput31_any w W _ P1 x0 2 h (by omega) (by omega) (by omega)).mono (by rintro e w' ⟨a, c, rfl, g, _⟩; rw [endB2, ← hP2, show P1.length + 2 = L2 by omega] at g; exact ⟨a, c, by rw [show P1.length + 2 = L2 by omega], g⟩)
        have hlen2 : P2.length = L2 := by rw [hP2]; simp [be2]; omega
        have q3' : ∀ W a c, Grow w (.slice a L2 c) P2 W → Calls Try.prog 96 #[.slice a L2 c, .int .u64 (x1 : Int), .int .i64 2] W fun e w' => ∃ a c, e = .returned (.slice a L3 c) ∧ Grow w (.slice a L3 c) (preB sd ls (k + 1)) w' := fun W a c h =>
          (rput31_any w W _ P2 x1 2 h (by omega) (by omega) (by omega)).mono (by rintro e w' ⟨a, c, rfl, g, _⟩; rw [endB2, ← hfin, show P2.length + 2 = L3 by omega] at g; exact ⟨a, c, by rw [show P2.length + 2 = L3 by omega], g⟩)
        have q1 := Lib.hid q1'
        have q2 := Lib.hid q2'
        have q3 := Lib.hid q3'
        have sc : ∀ v xs W, Grow w v xs W → W.cell? ⟨b, off + p * 2, none⟩ = some (.int .u16 (x0 : Int)) ∧ W.cell? ⟨b, off + p * 2 + 1, none⟩ = some (.int .u16 (x1 : Int)) := fun v xs W h => HCL.out W h.below p _ HX.out
        have SC := Lib.hid sc
        have hu1 : IntKind.u64.wrap (Nn : Int) = (Nn : Int) := by simp [IntKind.wrap, IntKind.bits, IntKind.signed]; omega
        have hu2 : IntKind.u64.wrap (x0 : Int) = (x0 : Int) := by simp [IntKind.wrap, IntKind.bits, IntKind.signed]; omega
        have hu3 : IntKind.u64.wrap (x1 : Int) = (x1 : Int) := by simp [IntKind.wrap, IntKind.bits, IntKind.signed]; omega
        have hwi : IntKind.i64.wrap ((p : Int) + (Nn : Int)) = ((p + Nn : Nat) : Int) := by
          rw [Int.natCast_add]; exact IntWalk.i64_in _ (by omega)
        have HNX := Lib.hid hnext
        have HL3 := Lib.hid (show L3 = 10 + 5 * (k + 1) by omega)
        have hG' : Grow w (.slice av L cv) P0 (V.drewN d) := ⟨hG.out.drewN d, below_drewN hG.below d, hG.own⟩
        rw [← hL]
        generalize V.drewN d = U at *
        have GU := hG'.drew
        clear HG HN HN3 HDR hdr hruns hat hlead hnext hN2 hpre hlen0 hfin hP1 hP2 hL hL1 hL2 hL3 hlen1 hlen2 q1' q2' q3' sc hG hG' cx0 cx1
        go_upto_region 7 with fail
        go_region_held3 (fun w' => w'.cell? ⟨b, off + p * 2, none⟩ = some (.int .u16 (x0 : Int)) ∧ w'.cell? ⟨b, off + p * 2 + 1, none⟩ = some (.int .u16 (x1 : Int))) (first | with_reducible exact SC.out _ _ _ GU | with_reducible exact SC.out _ _ _ G1 | with_reducible exact SC.out _ _ _ G2 | with_reducible exact SC.out _ _ _ G3 | fail "no keep")
          (first
            | (go_at_call 96; (with_reducible refine (q1.out _ GU).mono ?_); rintro e w1 ⟨a1, c1, rfl, G1⟩)
            | (go_at_call 96; (with_reducible refine (q2.out _ _ _ G1).mono ?_); rintro e w2 ⟨a2, c2, rfl, G2⟩)
            | (go_at_call 96; (with_reducible refine (q3.out _ _ _ G2).mono ?_); rintro e w3 ⟨a3, c3, rfl, G3⟩)
            | fail "no arm")
        all_goals
          go_wp2_with fail
          refine ⟨⟨p + Nn, k + 1, a3, c3, hpn.1, by simp, hkl, HNX.out, by rw [HL3.out], ?_⟩, by simp [intOf]; omega⟩
          have := G3
          rw [HL3.out] at this
          exact this
    · obtain rfl : p = ls.length := by omega
      have hk2 : k = (runsL ls).length := by
        have := congrArg List.length hdr
        rw [List.drop_length, runsL_nil, List.length_drop] at this
        simp at this
        omega
      have hpre : preB sd ls k = tapeB sd ls := by rw [hk2]; exact preB_all sd ls
      rw [hpre] at hG
      have hlen : (tapeB (sd : Int) ls).length = 10 + 5 * k := by rw [← hpre, preB_len _ _ _ hk]
      obtain ⟨a6, c6, hv6, hrow6⟩ := out_row hG.out
      rw [hlen] at hv6 hrow6
      cases hv6
      have pS := Lib.hid (rseal_any wr av (10 + 5 * k) cv (tapeB sd ls) hrow6 (tapeB_byte sd ls) (by omega))
      have HG := Lib.hid hG
      have HLN := Lib.hid hlen
      clear hG hrow6 hlen hpre hdr hk2
      go_wp2_with (first | (go_at_call 48; refine pS.out.mono ?_; rintro e w6 ⟨v6, rfl, on6, b6, ow6⟩) | fail)
      go_ret
      refine ⟨v6, rfl, by rw [HLN.out]; exact on6, HG.out.below.trans (b6.mono HG.out.below.size), fun g hg => Nat.le_trans HG.out.below.size (ow6 g hg)⟩
end Go.Proofs.Ytblnfkhaicjeaaa.Spe
