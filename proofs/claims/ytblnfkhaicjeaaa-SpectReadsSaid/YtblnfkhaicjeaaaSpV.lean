/-
  backstayref31.Parse. Conditions: bytes that lie in memory, at most a million.
-/
import Derived.Test.YtblnfkhaicjeaaaSpU
namespace Go.Proofs.Ytblnfkhaicjeaaa.Spe
open Go.RowKit Go.Shelf Go.Proofs.Ytblnfkhaicjeaaa.Byt Go.Proofs.Ytblnfkhaicjeaaa.Gm Go.Proofs.Ytblnfkhaicjeaaa.RingE Go.Proofs.Ytblnfkhaicjeaaa.Crc
set_option linter.all false
attribute [local go_sem] Oper.semAt_some

theorem runB_inj' {c d : Nat × (Nat × Nat)} {s t : List Int} (hc : c.1 < 256 ∧ c.2.1 < 65536 ∧ c.2.2 < 65536) (hd : d.1 < 256 ∧ d.2.1 < 65536 ∧ d.2.2 < 65536) (h : runB c ++ s = runB d ++ t) : c = d ∧ s = t := by
  obtain ⟨e1, e2⟩ := List.append_inj h (by rw [runB_len, runB_len])
  refine ⟨?_, e2⟩
  obtain ⟨n, x, y⟩ := c
  obtain ⟨m, u, v⟩ := d
  obtain ⟨c2, c3, c4⟩ := hc
  obtain ⟨d2, d3, d4⟩ := hd
  simp [runB, be2] at e1 c2 c3 c4 d2 d3 d4
  rw [Prod.mk.injEq, Prod.mk.injEq]
  omega
/-- What is read so far is the first runs of whatever tape the bytes are. -/
def Pre (B : List Int) (cs : List (Nat × (Nat × Nat))) (R : List Int) : Prop := ∀ s l, Tp B s l → ∃ ds, runsL l = cs ++ ds ∧ R = ds.flatMap runB
theorem pre_start {B : List Int} {sd many : Nat} (hB : B = headB (sd : Int) many ++ B.drop 10) (hs : sd < 4294967296) (hm : many ≤ 16384) : Pre B [] (B.drop 10) ∧ ∀ s l, Tp B s l → s = sd ∧ l.length = many := by
  have h0 : ∀ s l, Tp B s l → s = sd ∧ l.length = many ∧ (runsL l).flatMap runB = B.drop 10 := fun s l ⟨h1, h2, h3, h4⟩ => by
    obtain ⟨e1, e2, e3⟩ := tape_head (sd := (s : Int)) (sd' := (sd : Int)) (n := many) ⟨by omega, by omega⟩ ⟨by omega, by omega⟩ (by omega) (by omega) (h4.trans hB)
    exact ⟨by omega, e2, e3⟩
  exact ⟨fun s l h => ⟨runsL l, rfl, (h0 s l h).2.2.symm⟩, fun s l h => ⟨(h0 s l h).1, (h0 s l h).2.1⟩⟩
theorem pre_next {B R R' : List Int} {cs : List (Nat × (Nat × Nat))} {c : Nat × (Nat × Nat)} (h : Pre B cs R) (hR : R = runB c ++ R') (hc : c.1 < 256 ∧ c.2.1 < 65536 ∧ c.2.2 < 65536) : Pre B (cs ++ [c]) R' := fun s l ht => by
  obtain ⟨ds, e1, e2⟩ := h s l ht
  obtain ⟨d, l', rfl, e3⟩ := rest_cases e2 (by rw [hR, List.length_append, runB_len]; omega)
  have hb := canon_bd (runs_canon l.length l (Nat.le_refl _) ht.2.1).1 d (by rw [e1]; simp)
  obtain ⟨rfl, e4⟩ := runB_inj' hc ⟨by have := hb.2.1; omega, hb.2.2.1, hb.2.2.2⟩ (hR.symm.trans e3)
  exact ⟨l', by rw [e1, List.append_assoc]; rfl, e4⟩
theorem pre_end {B R : List Int} {cs : List (Nat × (Nat × Nat))} (h : Pre B cs R) (hR : R.length < 5 ∨ 16384 < (expL cs).length) : ∀ s l, Tp B s l → l = expL cs := fun s l ht => by
  obtain ⟨ds, e1, e2⟩ := h s l ht
  have e3 := (runs_canon l.length l (Nat.le_refl _) ht.2.1).2
  rw [e1, expL_app] at e3
  rcases hR with hR | hR
  · have : ds = [] := by
      cases ds with
      | nil => rfl
      | cons d l' => rw [e2, List.flatMap_cons, List.length_append, runB_len] at hR; omega
    rw [← e3, this]
    simp [expL]
  · have h1 := congrArg List.length e3
    rw [List.length_append] at h1
    have := ht.2.2.1
    omega
def RPost (w : World) (zs : List Int) (e : Ending) (w' : World) : Prop := ∃ (sd : Nat) (ls : List (Nat × Nat)) (code : Int) (a : Option Addr) (c : Nat), e = .returned (.tuple #[.int .u32 (sd : Int), .slice a ls.length c, .int .i64 code]) ∧ InRow w' a ls ∧ ParseR zs sd ls code ∧ Below w.heap.size w w'

/-- The document's list, between two rounds. -/
structure Rs (w1 W : World) (lv : Value) (ls : List (Nat × Nat)) : Prop where
  lst : On W 48 2 lv ls.length (flat (fun x => (inC x).toList) ls)
  below : Below w1.heap.size w1 W
  own : ∀ k, lv.ownBlock = some k → w1.heap.size ≤ k
section
variable {w1 W : World} {lv : Value} {ls : List (Nat × Nat)}
theorem Rs.drewN (h : Rs w1 W lv ls) (n : Nat) : Rs w1 (W.drewN n) lv ls := ⟨h.lst.drewN n, below_drewN h.below n, h.own⟩
theorem Rs.drew (h : Rs w1 W lv ls) : Rs w1 W.drew lv ls := ⟨h.lst.drew, h.below.drew, h.own⟩
theorem Rs.alloc (h : Rs w1 W lv ls) (o : Obj) : Rs w1 (W.alloc o) lv ls := ⟨h.lst.alloc o, h.below.alloc h.below.size o, h.own⟩
theorem Rs.pair (h : Rs w1 W lv ls) {t : Nat} {a b : Value} (hb : Blk W t 48 #[a, b]) (ht : w1.heap.size ≤ t) (hk : ∀ k, lv.ownBlock = some k → k ≠ t) (u v : Value) :
    Rs w1 ((W.setCell ⟨t, 0, none⟩ u).setCell ⟨t, 1, none⟩ v) lv ls ∧ Blk ((W.setCell ⟨t, 0, none⟩ u).setCell ⟨t, 1, none⟩ v) t 48 #[u, v] :=
  ⟨⟨(h.lst.far (p := ⟨t, 0, none⟩) (fun e => hk t e rfl) u).far (p := ⟨t, 1, none⟩) (fun e => hk t e rfl) v, (h.below.setCell ht u).setCell ht v, h.own⟩, Blk.set_ (Blk.set_ hb 0 u) 1 v⟩
theorem Rs.put (h : Rs w1 W lv ls) {x : Nat × Nat} {lv' : Value} {W' : World} (hon : On W' 48 2 lv' (ls.length + 1) (flat (fun x => (inC x).toList) ls ++ (inC x).toList)) (hg : W.grownBy W' lv.ownBlock) (hv : lv'.ownBlock = lv.ownBlock ∨ lv'.ownBlock = some W.heap.size) :
    Rs w1 W' lv' (ls ++ [x]) := by
  refine ⟨?_, h.below.grown hg h.below.size (fun k e => h.own k e), fun k e => ?_⟩
  · rw [List.length_append, List.length_singleton, flat_snoc]
    exact hon
  · rcases hv with hv | hv
    · exact h.own k (hv ▸ e)
    · rw [hv] at e; cases e; exact h.below.size
end
theorem seal_of_open {zs : List Int} (h : openC zs = 0) : sealB (openL zs) = zs := by
  have h2 : openL zs = zs.take (zs.length - 4) := by unfold openL; rw [if_pos h]
  unfold openC at h
  split at h
  · omega
  · split at h
    · rw [h2]; assumption
    · omega

set_option maxRecDepth 100000 in
set_option maxHeartbeats 8000000 in
theorem rparse_any (w : World) (a : Option Addr) (len c : Nat) (zs : List Int) (hrow : Row .u8 w a len zs) (hz : ∀ z ∈ zs, 0 ≤ z ∧ z < 256) (hl : len ≤ 100000) (hc : len ≤ c) (hc2 : c ≤ 9223372036854775807) :
    Calls Try.prog 49 #[.slice a len c] w (RPost w zs) := by
  have hzl := hrow.1
  obtain ⟨hoz, hol⟩ := openL_in hz
  have hso := Lib.hid (fun h : openC zs = 0 => seal_of_open h)
  have pO := Lib.hid (ropen_any w a len c zs hrow hz (by omega) hc hc2)
  have HZR := Lib.hid hrow
  clear hrow
  go_enter Try.func49, Try.ntmps49
  go_wp2_with fail
  refine pO.out.mono ?_
  rintro e w1 ⟨a1, c1, rfl, hc1, hc12, hrow1, hb1⟩
  have HB1 := Lib.hid hb1
  have hfin : ∀ (W : World) (code : Int), Below w1.heap.size w1 W → ParseR zs 0 [] code → RPost w zs (.returned (.tuple #[.int .u32 ((0 : Nat) : Int), .slice none ([] : List (Nat × Nat)).length 0, .int .i64 code])) W := fun W code hb hp =>
    ⟨0, [], code, none, 0, rfl, ⟨fun x hx => by simp at hx, fun h => absurd h (Nat.not_lt_zero _)⟩, hp, HB1.out.trans (hb.mono HB1.out.size)⟩
  have HFIN := Lib.hid hfin
  have hPR : ∀ code, openC zs ≠ 0 → code = openC zs → ParseR zs 0 [] code := fun code h e => by
    unfold ParseR; rw [if_neg h]; exact ⟨e, rfl, rfl⟩
  have HPR := Lib.hid hPR
  have hPR2 : ∀ sd ls code, openC zs = 0 → HeadR (openL zs) sd ls code → ParseR zs sd ls code := fun sd ls code h e => by
    unfold ParseR; rw [if_pos h]; exact e
  have HPR2 := Lib.hid hPR2
  clear hfin hPR hPR2 pO hb1
  generalize openL zs = B at *
  generalize openC zs = oc at *
  by_cases ho : oc = 0
  · have HSO := Lib.hid (hso.out ho)
    subst ho
    clear hso
    by_cases h10 : B.length < 10
    · have h10' : (B.length : Int) < 10 := by omega
      have hp := Lib.hid (HPR2.out 0 [] 70 (by first | rfl | trivial) (by unfold HeadR; rw [if_pos h10]; exact ⟨rfl, rfl, rfl⟩))
      clear hrow1
      go_wp2_with fail
      go_ret3
      exact HFIN.out _ 70 (Below.refl _ _) hp.out
    · have h10' : ¬ (B.length : Int) < 10 := by omega
      obtain ⟨b, off, rfl, hbl, -⟩ := hrow1.2 (by omega)
      have hg2 : ∀ W, Below w1.heap.size w1 W → _ := fun W hb => rget_any W (some ⟨b, off, none⟩) 2 c1 (B.take 2) (by have := row_sub (hrow1.below hb) 0 2 (by omega); simpa using this) (fun z h => hoz z (List.mem_of_mem_take h)) (by omega)
      have hg6 : ∀ W, Below w1.heap.size w1 W → _ := fun W hb => rget_any W (some ⟨b, off + 6, none⟩) 4 (c1 - 6) ((B.drop 6).take 4) (row_sub (hrow1.below hb) 6 4 (by omega)) (fun z h => hoz z (List.mem_of_mem_drop (List.mem_of_mem_take h))) (by omega)
      have hgs : ∀ W, Below w1.heap.size w1 W → _ := fun W hb => rget_any W (some ⟨b, off + 2, none⟩) 4 (c1 - 2) ((B.drop 2).take 4) (row_sub (hrow1.below hb) 2 4 (by omega)) (fun z h => hoz z (List.mem_of_mem_drop (List.mem_of_mem_take h))) (by omega)
      have hmg : getN (nb (B.take 2)) < 4294967296 := getN_lt4 (by simp [nb]; omega) (nb_lt (fun z h => hoz z (List.mem_of_mem_take h)))
      have hmy : getN (nb ((B.drop 6).take 4)) < 4294967296 := getN_lt4 (by simp [nb]; omega) (nb_lt (fun z h => hoz z (List.mem_of_mem_drop (List.mem_of_mem_take h))))
      have hsd : getN (nb ((B.drop 2).take 4)) < 4294967296 := getN_lt4 (by simp [nb]; omega) (nb_lt (fun z h => hoz z (List.mem_of_mem_drop (List.mem_of_mem_take h))))
      have hHD : ∀ sd ls code, HeadR B sd ls code = if mgOf B ≠ 16980 then code = 71 ∧ sd = 0 ∧ ls = [] else if 16384 < manyOf B then code = 2 ∧ sd = 0 ∧ ls = [] else (code = 0 ∧ Tp B sd ls) ∨ (code = 73 ∧ sd = 0 ∧ ls = [] ∧ ∀ s l, ¬ Tp B s l) := fun sd ls code => by
        unfold HeadR; rw [if_neg h10]
      have hsplit := fun (hm : mgOf B = 16980) => head_split hoz (by omega) hm
      rw [show getN (nb (B.take 2)) = mgOf B from rfl] at hg2 hmg
      rw [show getN (nb ((B.drop 6).take 4)) = manyOf B from rfl] at hg6 hmy
      rw [show getN (nb ((B.drop 2).take 4)) = sdOf B from rfl] at hgs hsd
      have pG2 := Lib.hid (hg2 w1 (Below.refl _ _))
      have pG6 := Lib.hid hg6
      have pGS := Lib.hid hgs
      have HHD := Lib.hid hHD
      have HSP := Lib.hid hsplit
      have HROW := Lib.hid hrow1
      clear hg2 hg6 hgs hHD hsplit hrow1
      generalize mgOf B = mg at *
      generalize manyOf B = many at *
      generalize sdOf B = sd at *
      have k2 : (2 : Int) ≤ (c1 : Int) := by omega
      have k6 : (6 : Int) ≤ (c1 : Int) := by omega
      have k10 : (10 : Int) ≤ (c1 : Int) := by omega
      have m2 : ¬ c1 = 2 := by omega
      have m6 : ¬ c1 = 6 := by omega
      have kb : (B.length : Int) ≤ (c1 : Int) := by omega
      by_cases hm : mg = 16980
      · rw [hm] at pG2
        have hw2 : IntKind.u32.wrap (sd : Int) = (sd : Int) := by simp [IntKind.wrap, IntKind.bits, IntKind.signed]; omega
        have hBd : Below w1.heap.size w1 w1.drew := (Below.refl _ w1).drew
        go_upto_region 8 with (first
          | (go_at_call 99; (with_reducible refine pG2.out.mono ?_); rintro e w2 ⟨rfl, rfl⟩)
          | fail)
        go_cut [7, 8] (fun sv mv wx => sv = .int .u32 (sd : Int) ∧ mv = .int .u64 (many : Int) ∧ Below w1.heap.size w1 wx)
        case first =>
          go_region_with (first
            | (go_at_call 99; (with_reducible refine (pG6.out _ hBd).mono ?_); rintro e w2 ⟨rfl, rfl⟩)
            | (go_at_call 99; (with_reducible refine (pGS.out _ hBd).mono ?_); rintro e w2 ⟨rfl, rfl⟩)
            | fail)
          all_goals
            go_wp2_with fail
            go_meet
            exact ⟨rfl, rfl, hBd⟩
        case rest =>
          obtain ⟨rfl, rfl, hBc⟩ := hcut
          by_cases hlong : 16384 < many
          · have hp := Lib.hid (HPR2.out 0 [] 2 (by first | rfl | trivial) (by rw [HHD.out, if_neg (by simp [hm]), if_pos hlong]; exact ⟨rfl, rfl, rfl⟩))
            have hlong' : (16384 : Int) < (many : Int) := by omega
            clear HHD HSP hm
            go_wp2_with fail
            go_ret3
            exact HFIN.out _ 2 hBc hp.out
          · have hlong' : ¬ (16384 : Int) < (many : Int) := by omega
            have hB := HSP.out hm
            have hp : ∀ sd ls code, ((code = 0 ∧ Tp B sd ls) ∨ (code = 73 ∧ sd = 0 ∧ ls = [] ∧ ∀ s l, ¬ Tp B s l)) → ParseR zs sd ls code := fun sd ls code h => HPR2.out sd ls code (by first | rfl | trivial) (by rw [HHD.out, if_neg (by simp [hm]), if_neg hlong]; exact h)
            have HP := Lib.hid hp
            have hmany : many ≤ 16384 := by omega
            obtain ⟨hpre, hown⟩ := pre_start hB hsd hmany
            have HPRE := Lib.hid hpre
            have HOWN := Lib.hid hown
            have HBC := Lib.hid hBc
            clear HHD HSP hm hp hB hlong hpre hown hBc hBd pG2 pG6 pGS m2 m6
            go_wp2_with fail
            go_loopw [9, 10] (fun lv iv wr => ∃ (cs : List (Nat × (Nat × Nat))) (q : Nat) (aL : Option Addr) (cL : Nat), iv = .int .i64 (q : Int) ∧ q ≤ B.length ∧ lv = .slice aL (expL cs).length cL ∧ Rs w1 wr (.slice aL (expL cs).length cL) (expL cs) ∧ InB (expL cs) ∧ (expL cs).length ≤ 16640 ∧ Pre B cs (B.drop q)) (fun _ iv _ => B.length - (intOf iv).toNat)
            case atStart => exact ⟨[], 10, none, 0, rfl, by omega, rfl, ⟨On.nil _ _ _, HBC.out, fun k h => by simp [Value.ownBlock] at h⟩, fun x hx => by simp [expL] at hx, by simp [expL], HPRE.out⟩
            case round =>
              clear HPRE HBC
              obtain ⟨cs, q, aL, cL, rfl, hq, rfl, hRs, hin, hle, hpre⟩ := hrel
              obtain ⟨nL, hnL⟩ : ∃ n, n = (expL cs).length := ⟨_, rfl⟩
              rw [← hnL] at hRs hle ⊢
              have HRS := Lib.hid hRs
              have HIN := Lib.hid hin
              have HPR := Lib.hid hpre
              have HNL := Lib.hid hnL
              have hq0 : (0 : Int) ≤ (q : Int) := by omega
              obtain ⟨q5, hq5⟩ : ∃ q5, q5 = q + 5 := ⟨_, rfl⟩
              have hw5 : IntKind.i64.wrap ((q : Int) + 5) = (q5 : Int) := by rw [IntWalk.i64_in _ (by omega)]; omega
              generalize wr = V at *
              clear hRs hin hpre hnL
              by_cases c1' : q5 ≤ B.length ∧ nL ≤ 16384
              · obtain ⟨d1', d2'⟩ := c1'
                have d1 : (q5 : Int) ≤ (B.length : Int) := by omega
                have d2 : (nL : Int) ≤ 16384 := by omega
                have hRz : ∀ z ∈ B.drop q, 0 ≤ z ∧ z < 256 := fun z h => hoz z (List.mem_of_mem_drop h)
                obtain ⟨n0, x0, x1, hn0, hx0, hx1, e0, ex, ey, hRR⟩ := chunk hRz (by rw [List.length_drop]; omega)
                obtain ⟨q1, hq1⟩ : ∃ q1, q1 = q + 1 := ⟨_, rfl⟩
                obtain ⟨q3, hq3⟩ : ∃ q3, q3 = q + 3 := ⟨_, rfl⟩
                have hw1 : IntKind.i64.wrap ((q : Int) + 1) = (q1 : Int) := by rw [IntWalk.i64_in _ (by omega)]; omega
                have hw3 : IntKind.i64.wrap ((q : Int) + 3) = (q3 : Int) := by rw [IntWalk.i64_in _ (by omega)]; omega
                have hwn0 : IntKind.i64.wrap (n0 : Int) = (n0 : Int) := IntWalk.i64_in _ (by omega)
                have g1 : (0 : Int) ≤ (q1 : Int) := by omega
                have g2 : (q1 : Int) ≤ (q3 : Int) := by omega
                have g3 : (q3 : Int) ≤ (c1 : Int) := by omega
                have g4 : (0 : Int) ≤ (q3 : Int) := by omega
                have g5 : (q3 : Int) ≤ (q5 : Int) := by omega
                have g6 : (q5 : Int) ≤ (c1 : Int) := by omega
                have g7 : q3 - q1 = 2 := by omega
                have g8 : q5 - q3 = 2 := by omega
                have g9 : ¬ c1 = q1 := by omega
                have g10 : ¬ c1 = q3 := by omega
                have g11 : (q : Int) < (B.length : Int) := by omega
                have gx' : ∀ W, Below w1.heap.size w1 W → Calls Try.prog 99 #[.slice (some ⟨b, off + q1, none⟩) 2 (c1 - q1)] W fun e w' => e = .returned (.int .u64 (x0 : Int)) ∧ W = w' := fun W hb => by
                  have := rget_any W (some ⟨b, off + q1, none⟩) 2 (c1 - q1) ((B.drop q1).take 2) (row_sub (HROW.out.below hb) q1 2 (by omega)) (fun z h => hoz z (List.mem_of_mem_drop (List.mem_of_mem_take h))) (by omega)
                  rw [List.drop_drop, ← hq1] at ex
                  rw [ex] at this
                  exact this
                have gy' : ∀ W, Below w1.heap.size w1 W → Calls Try.prog 99 #[.slice (some ⟨b, off + q3, none⟩) 2 (c1 - q3)] W fun e w' => e = .returned (.int .u64 (x1 : Int)) ∧ W = w' := fun W hb => by
                  have := rget_any W (some ⟨b, off + q3, none⟩) 2 (c1 - q3) ((B.drop q3).take 2) (row_sub (HROW.out.below hb) q3 2 (by omega)) (fun z h => hoz z (List.mem_of_mem_drop (List.mem_of_mem_take h))) (by omega)
                  rw [List.drop_drop, ← hq3] at ey
                  rw [ey] at this
                  exact this
                have gx := Lib.hid gx'
                have gy := Lib.hid gy'
                have hwx : IntKind.u16.wrap (x0 : Int) = (x0 : Int) := by simp [IntKind.wrap, IntKind.bits, IntKind.signed]; omega
                have hwy : IntKind.u16.wrap (x1 : Int) = (x1 : Int) := by simp [IntKind.wrap, IntKind.bits, IntKind.signed]; omega
                have hnx : nth (B.drop q) 0 = nth B q := by simp [nth, List.getD, List.getElem?_drop]
                have sc : ∀ W, Below w1.heap.size w1 W → W.cell? ⟨b, off + q, none⟩ = some (.int .u8 (n0 : Int)) := fun W hb => by
                  obtain ⟨b', off', e, h1, h2⟩ := (HROW.out.below hb).2 (by omega)
                  cases e
                  rw [h2 q (by omega), ← hnx, e0]
                have SC := Lib.hid sc
                have hpn := pre_next HPR.out hRR ⟨hn0, hx0, hx1⟩
                rw [List.drop_drop, ← hq5] at hpn
                have HPN := Lib.hid hpn
                have HQ5 := Lib.hid hq5
                have hmeas : B.length - q5 < B.length - q := by omega
                have HMEAS := Lib.hid hmeas
                clear hRz e0 ex ey hRR gx' gy' hnx sc hpn hq1 hq3 hq5 hmeas
                go_upto_region 15 with fail
                have hRV := HRS.out
                have hqV := SC.out _ hRV.drew.below
                have HBd := hRV.drew.below
                have hRa := (hRV.alloc (.cells #[.int .u16 0, .int .u16 0] 48)).drew
                have HBa := hRa.below
                have hqa := SC.out _ HBa
                have hko : ∀ k, Value.ownBlock (.slice aL nL cL) = some k → k ≠ V.heap.size := fun k e => by
                  have := On.lt hRV.lst k e
                  omega
                have sA := hRa.pair (Blk.drew (Blk.new V 48 #[.int .u16 0, .int .u16 0])) hRV.below.size hko (.int .u16 (x0 : Int)) (.int .u16 (x1 : Int))
                have hRb := hRV.drew.alloc (.cells #[.int .u16 0, .int .u16 0] 48)
                have sB := hRb.pair (t := V.heap.size) (Blk.new V.drew 48 #[.int .u16 0, .int .u16 0]) hRV.below.size hko (.int .u16 (x0 : Int)) (.int .u16 (x1 : Int))
                have qA := SC.out _ sA.1.below
                have qB := SC.out _ sB.1.below
                have hRc := hRV.drew.alloc (.cells #[.int .u16 (x0 : Int), .int .u16 (x1 : Int)] 48)
                have sC := (⟨hRc, Blk.new V.drew 48 #[.int .u16 (x0 : Int), .int .u16 (x1 : Int)]⟩ : _ ∧ _)
                have qC := SC.out _ hRc.below
                have hUz := hRV.below.size
                clear hRV hRa hRb hRc
                go_cut [11] (fun p wx => ∃ ib, p = .pointer (some ⟨ib, 0, none⟩) ∧ w1.heap.size ≤ ib ∧ Blk wx ib 48 #[.int .u16 (x0 : Int), .int .u16 (x1 : Int)] ∧ Rs w1 wx (.slice aL nL cL) (expL cs) ∧ ∀ k, Value.ownBlock (.slice aL nL cL) = some k → k ≠ ib)
                case first =>
                  go_region_held3 (fun W => W.cell? ⟨b, off + q, none⟩ = some (.int .u8 (n0 : Int))) (first | exact hqV | exact hqa | exact qA | exact qB | exact qC | fail "no keep")
                    (first
                      | (go_at_call 99; (with_reducible refine (gx.out _ HBd).mono ?_); rintro e wA ⟨rfl, rfl⟩)
                      | (go_at_call 99; (with_reducible refine (gx.out _ HBa).mono ?_); rintro e wA ⟨rfl, rfl⟩)
                      | (go_at_call 99; (with_reducible refine (gy.out _ HBd).mono ?_); rintro e wA ⟨rfl, rfl⟩)
                      | (go_at_call 99; (with_reducible refine (gy.out _ HBa).mono ?_); rintro e wA ⟨rfl, rfl⟩)
                      | fail "no arm")
                  all_goals
                    go_wp2_with fail
                    go_meet
                    first
                      | exact ⟨V.heap.size, rfl, hUz, sA.2, sA.1, hko⟩
                      | exact ⟨V.heap.size, rfl, hUz, sB.2, sB.1, hko⟩
                      | exact ⟨V.heap.size, rfl, hUz, sC.2, sC.1, hko⟩
                      | fail
                case rest =>
                  obtain ⟨ib, rfl, hib, hIn, hRw, hki⟩ := hcut
                  have HRW := Lib.hid hRw
                  have HIN2 := Lib.hid hIn
                  have HKI := Lib.hid hki
                  clear sA sB sC qA qB qC hqV hqa HBd HBa hko hUz HRS gx gy hRw hIn hki
                  go_wp2_with fail
                  go_loopw [9, 12] (fun lv kv wr => ∃ (j : Nat) (aJ : Option Addr) (cJ : Nat), j ≤ n0 ∧ kv = .int .i64 (j : Int) ∧ lv = .slice aJ (nL + j) cJ ∧ Rs w1 wr (.slice aJ (nL + j) cJ) (expL cs ++ List.replicate j (x0, x1)) ∧ Blk wr ib 48 #[.int .u16 (x0 : Int), .int .u16 (x1 : Int)] ∧ ∀ k, Value.ownBlock (.slice aJ (nL + j) cJ) = some k → k ≠ ib) (fun _ kv _ => ((n0 : Int) - intOf kv).toNat)
                  case atStart => exact ⟨0, aL, cL, Nat.zero_le _, rfl, rfl, by simpa using HRW.out, HIN2.out, HKI.out⟩
                  case round =>
                    clear HRW HIN2 HKI
                    obtain ⟨j, aJ, cJ, hj, rfl, rfl, hR, hI, hK⟩ := hrel
                    generalize wr = Y at *
                    have cY := SC.out _ hR.below
                    by_cases hlt : j < n0
                    · obtain ⟨m, hm⟩ : ∃ m, m = nL + j := ⟨_, rfl⟩
                      rw [← hm] at hR hK ⊢
                      have hlen : (expL cs ++ List.replicate j (x0, x1)).length = m := by rw [List.length_append, List.length_replicate, ← HNL.out, hm]
                      have hm2 : m ≤ 16640 := by omega
                      have j0 : (j : Int) < (n0 : Int) := by omega
                      have i0 : Y.cell? ⟨ib, 0, none⟩ = some (.int .u16 (x0 : Int)) := hI.cell 0
                      have i1 : Y.cell? ⟨ib, 1, none⟩ = some (.int .u16 (x1 : Int)) := hI.cell 1
                      have hRa := hR.alloc (.cells #[.int .u16 (x0 : Int), .int .u16 (x1 : Int)] 48)
                      have hIa := hI.alloc (.cells #[.int .u16 (x0 : Int), .int .u16 (x1 : Int)] 48)
                      have HRA := Lib.hid hRa
                      have HIA := Lib.hid hIa
                      have hOa := hRa.lst
                      rw [hlen] at hOa
                      have HOA := Lib.hid hOa
                      have HM := Lib.hid hlen
                      have HK := Lib.hid hK
                      have hibl := hI.lt
                      have hnext : ((expL cs ++ List.replicate j (x0, x1)) ++ [(x0, x1)]) = expL cs ++ List.replicate (j + 1) (x0, x1) := by rw [List.append_assoc, ← List.replicate_succ']
                      have HNE := Lib.hid hnext
                      have HMM := Lib.hid hm
                      obtain ⟨iI, hiI, hz0, hz1, hz2⟩ := info_parts infoIn
                      clear hR hI hRa hIa hOa hK hnext hlen hm
                      generalize expL cs ++ List.replicate j (x0, x1) = lj at *
                      go_wp2_with (first
                        | (at_builtin; refine wpList_append_on _ (by rfl) _ _ 23 (by rfl) 48 iI _ 2 4 Try.underlying23 hiI hz0 hz1 hz2 (by rfl) (by omega) (.slice aJ m cJ) m (flat (fun x => (inC x).toList) lj) (by rfl) HOA.out (some ⟨Y.heap.size, 0, none⟩) 1 1 [.int .u16 (x0 : Int), .int .u16 (x1 : Int)] (by rfl) (by rfl) (src_new Y 48 1 [.int .u16 (x0 : Int), .int .u16 (x1 : Int)]) (by intro u hu; simp at hu; rcases hu with rfl | rfl <;> rfl) (by simp only [maxLen]; omega) (by omega) ?_; intro v' w' hon hg hv'; obtain ⟨aV, cV, hvV, -, -⟩ := On.slice hon; subst hvV)
                        | fail)
                      have hon1 : On w' 48 2 (.slice aV (m + 1) cV) (lj.length + 1) (flat (fun x => (inC x).toList) lj ++ (inC (x0, x1)).toList) := by rw [HM.out]; exact hon
                      have hput := HRA.out.put (x := (x0, x1)) hon1 hg hv'
                      rw [HNE.out] at hput
                      have hne2 : Value.ownBlock (.slice aJ m cJ) ≠ some ib := fun e => HK.out ib e rfl
                      have hib1 := HIA.out.grown hg (fun e => hne2 e.symm)
                      have hmm : m + 1 = nL + (j + 1) := by have := HMM.out; omega
                      rw [hmm] at hput hv' ⊢
                      exact ⟨⟨j + 1, aV, cV, by omega, by simp, rfl, hput, hib1, fun k e => by
                        rcases hv' with h | h
                        · exact HK.out k (h ▸ e)
                        · rw [h] at e
                          cases e
                          simp
                          omega⟩, by simp [intOf]; omega⟩
                    · obtain rfl : j = n0 := by omega
                      have hin2 : InB (expL (cs ++ [(j, (x0, x1))])) := by
                        rw [expL_snoc]
                        intro x hx
                        rcases List.mem_append.1 hx with hx | hx
                        · exact HIN.out x hx
                        · rw [(List.mem_replicate.1 hx).2]; exact ⟨hx0, hx1⟩
                      have hl2 : (expL (cs ++ [(j, (x0, x1))])).length = nL + j := by rw [expL_snoc, List.length_append, List.length_replicate, ← HNL.out]
                      have hR2 : Rs w1 Y (.slice aJ (expL (cs ++ [(j, (x0, x1))])).length cJ) (expL (cs ++ [(j, (x0, x1))])) := by rw [hl2, expL_snoc]; exact hR
                      have HR2 := Lib.hid hR2
                      have HIN3 := Lib.hid hin2
                      have HL2 := Lib.hid hl2
                      clear hR hI hK hin2 hl2 hR2
                      go_wp2_with fail
                      exact ⟨⟨cs ++ [(j, (x0, x1))], q5, aJ, cJ, rfl, by omega, by rw [HL2.out], HR2.out, HIN3.out, by rw [HL2.out]; omega, HPN.out⟩, by have := HMEAS.out; simp [intOf]; omega⟩
              · have hex := pre_end HPR.out (by rw [List.length_drop, ← HNL.out]; omega)
                have hfail : nL ≠ many → ParseR zs 0 [] 73 := fun hne => HP.out 0 [] 73 (.inr ⟨rfl, rfl, rfl, fun s l ht => hne (by
                  have h1 := (HOWN.out s l ht).2
                  rw [hex s l ht, ← HNL.out] at h1
                  exact h1)⟩)
                have hwl : IntKind.u64.wrap (nL : Int) = (nL : Int) := by simp [IntKind.wrap, IntKind.bits, IntKind.signed]; omega
                have hbel := HRS.out.below
                by_cases hnm : nL = many
                · have f0 : ¬ q5 ≤ B.length := fun h => c1' ⟨h, by omega⟩
                  have f1 : decide ((q5 : Int) ≤ (B.length : Int)) = false := by simp; omega
                  have f2 : decide (q5 ≤ B.length) = false := by simp; omega
                  have hnm' : ((nL : Int) == (many : Int)) = true := by simp [hnm]
                  have hIV : InRow V aL (expL cs) := on_inrow HRS.out.lst HIN.out
                  obtain ⟨n, hn⟩ : ∃ n, n = (tapeB (sd : Int) (expL cs)).length + 4 := ⟨_, rfl⟩
                  obtain ⟨Z, hZ⟩ : ∃ Z, Z = sealB (tapeB (sd : Int) (expL cs)) := ⟨_, rfl⟩
                  have hzn : Z.length = n := by rw [hZ, hn, sealB_len]
                  have hn2 : n ≤ 1000000 := by
                    have := runsL_len _ (expL cs) (Nat.le_refl _)
                    have h0 := HNL.out
                    rw [hn]
                    unfold tapeB
                    rw [List.length_append, Spe.flat_len]
                    simp [headB, be2, be4]
                    omega
                  have pB' : Calls Try.prog 46 #[.int .u32 (sd : Int), .slice aL nL cL] V fun e w' => ∃ a c, e = .returned (.slice a n c) ∧ Row .u8 w' a n Z ∧ Below V.heap.size V w' := by
                    have := rtbytes_any V sd aL cL (expL cs) hIV (by rw [← HNL.out]; omega) hsd
                    rw [← HNL.out] at this
                    refine this.mono ?_
                    rintro e w' ⟨v, rfl, hon, hb, hown⟩
                    obtain ⟨a, c, rfl, h1, h2, h3⟩ := out_rowc (xs := Z) (by unfold Out; rw [hzn, hZ, hn]; exact hon)
                    rw [hzn] at h1 h3
                    exact ⟨a, c, by rw [hzn], h3, hb⟩
                  have pS' : ∀ (W : World) (a' : Option Addr) (c' : Nat), Row .u8 W a' n Z → Row .u8 W a len zs → Calls Try.prog 21 #[.slice a' n c', .slice a len c] W fun e w' => e = .returned (.bool (decide (Z = zs))) ∧ Below W.heap.size W w' := fun W a' c' h1 h2 =>
                    same_any W a' a n len c' c Z zs h1 h2 (by omega) (by omega)
                  have pB := Lib.hid pB'
                  have pS := Lib.hid pS'
                  have HIV := Lib.hid hIV
                  have hcase : (Z = zs → ParseR zs sd (expL cs) 0) ∧ (Z ≠ zs → ParseR zs 0 [] 73) := by
                    refine ⟨fun h => HP.out _ _ _ (.inl ⟨rfl, hsd, HIN.out, by rw [← HNL.out]; omega, ?_⟩), fun h => HP.out 0 [] 73 (.inr ⟨rfl, rfl, rfl, fun s l ht => h ?_⟩)⟩
                    · have h1 : sealB (tapeB (sd : Int) (expL cs)) = sealB B := by rw [← hZ, h, HSO.out]
                      unfold sealB at h1
                      exact (List.append_inj' h1 (by simp [le4])).1
                    · obtain ⟨h1, _⟩ := HOWN.out s l ht
                      have h2 := hex s l ht
                      have h3 := ht.2.2.2
                      rw [h1, h2] at h3
                      rw [hZ, h3, HSO.out]
                  have HCASE := Lib.hid hcase
                  have hbV := HB1.out.trans (hbel.mono HB1.out.size)
                  have HBV := Lib.hid hbV
                  have HNN := Lib.hid hn2
                  have HNM := Lib.hid hnm
                  clear hex hfail hnm hIV hZ hn hzn hn2 pB' pS' hcase hbV c1' hq5 f0 hbel
                  go_wp2_with fail
                  rotate_left
                  · rename_i h9
                    exact absurd (show (nL : Int) = (many : Int) by have := HNM.out; omega) h9
                  refine pB.out.mono ?_
                  rintro e w2 ⟨a2, c2, rfl, hrow2, b2⟩
                  have p2 := Lib.hid (pS.out w2 a2 c2 hrow2 ((HZR.out.below HBV.out).below b2))
                  have HB2 := Lib.hid (HBV.out.trans (b2.mono HBV.out.size))
                  have HB2' := Lib.hid b2
                  clear hrow2 b2
                  go_wp2_with fail
                  refine p2.out.mono ?_
                  rintro e w3 ⟨rfl, b3⟩
                  have HB3 := Lib.hid (HB2.out.trans (b3.mono HB2.out.size))
                  have HIV3 := Lib.hid (inRow_pre (inRow_pre HIV.out HB2'.out) b3)
                  clear b3
                  by_cases hzz : Z = zs
                  · rw [decide_eq_true hzz]
                    have hp := Lib.hid (HCASE.out.1 hzz)
                    have hfinal : RPost w zs (.returned (.tuple #[.int .u32 (sd : Int), .slice aL nL cL, .int .i64 0])) w3 := ⟨sd, expL cs, 0, aL, cL, by rw [← HNL.out], HIV3.out, hp.out, HB3.out⟩
                    clear hzz
                    go_wp2_with fail
                    go_ret3
                    exact hfinal
                  · rw [decide_eq_false hzz]
                    have hp := Lib.hid (HCASE.out.2 hzz)
                    clear hzz
                    go_wp2_with fail
                    go_ret3
                    exact ⟨0, [], 73, none, 0, rfl, ⟨fun x hx => by simp at hx, fun h => absurd h (Nat.not_lt_zero _)⟩, hp.out, HB3.out⟩
                · have hp := Lib.hid (hfail hnm)
                  have hnm' : ((nL : Int) == (many : Int)) = false := by simp; omega
                  have hnm2 : ¬ (nL : Int) = (many : Int) := by omega
                  by_cases f0 : q5 ≤ B.length
                  · have f1 : (q5 : Int) ≤ (B.length : Int) := by omega
                    have f2 : ¬ (nL : Int) ≤ 16384 := by omega
                    clear hex hfail c1' hq5
                    go_wp2_with fail
                    all_goals
                      go_ret3
                      exact HFIN.out _ 73 hbel hp.out
                  · have f1 : decide ((q5 : Int) ≤ (B.length : Int)) = false := by simp; omega
                    have f2 : decide (q5 ≤ B.length) = false := by simp; omega
                    clear hex hfail c1' hq5 f0
                    go_wp2_with fail
                    all_goals
                      go_ret3
                      exact HFIN.out _ 73 hbel hp.out
      · have hp := Lib.hid (HPR2.out 0 [] 71 (by first | rfl | trivial) (by rw [HHD.out, if_pos hm]; exact ⟨rfl, rfl, rfl⟩))
        have hm' : ((mg : Int) == 16980) = false := by simp; omega
        clear HHD HSP hm
        go_wp2_with (first
          | (go_at_call 99; (with_reducible refine pG2.out.mono ?_); rintro e w2 ⟨rfl, rfl⟩)
          | fail)
        go_ret3
        exact HFIN.out _ 71 (Below.refl _ _) hp.out
  · have ho' : (oc == 0) = false := by simp [ho]
    have hp := Lib.hid (HPR.out oc ho rfl)
    go_wp2_with fail
    go_ret3
    exact HFIN.out _ oc (Below.refl _ _) hp.out
end Go.Proofs.Ytblnfkhaicjeaaa.Spe
