/-
  Package spect: Parse. Conditions: bytes that lie in memory, at most a million; the table as New lays it.
-/
import Derived.Test.YtblnfkhaicjeaaaSpR
namespace Go.Proofs.Ytblnfkhaicjeaaa.Spe
open Go.RowKit Go.Shelf Go.Proofs.Ytblnfkhaicjeaaa.Byt Go.Proofs.Ytblnfkhaicjeaaa.Gm Go.Proofs.Ytblnfkhaicjeaaa.RingE Go.Proofs.Ytblnfkhaicjeaaa.Crc
set_option linter.all false
attribute [local go_sem] Oper.semAt_some

theorem openL_in {zs : List Int} (h : ∀ z ∈ zs, 0 ≤ z ∧ z < 256) : (∀ z ∈ openL zs, 0 ≤ z ∧ z < 256) ∧ (openL zs).length ≤ zs.length := by
  unfold openL
  split
  · exact ⟨fun z hz => h z (List.mem_of_mem_take hz), by simp⟩
  · exact ⟨fun z hz => by simp at hz, by simp⟩
theorem row_sub {w : World} {b off len : Nat} {zs : List Int} (h : Row .u8 w (some ⟨b, off, none⟩) len zs) (i n : Nat) (hn : i + n ≤ len) : Row .u8 w (some ⟨b, off + i, none⟩) n ((zs.drop i).take n) := by
  have hl := h.1
  refine ⟨by simp; omega, fun hp => ?_⟩
  obtain ⟨b', off', e, h1, h2⟩ := h.2 (by omega)
  cases e
  refine ⟨b, off + i, rfl, h1, fun j hj => ?_⟩
  rw [Nat.add_assoc, h2 (i + j) (by omega)]
  congr 2
  simp [nth, List.getD, List.getElem?_take, List.getElem?_drop, hj]
theorem row_drop {w : World} {b off len : Nat} {zs : List Int} (h : Row .u8 w (some ⟨b, off, none⟩) len zs) (i : Nat) (hn : i ≤ len) : Row .u8 w (some ⟨b, off + i, none⟩) (len - i) (zs.drop i) := by
  have := row_sub h i (len - i) (by omega)
  rw [List.take_of_length_le (by have := h.1; simp; omega)] at this
  exact this

def slN : Value → Nat
  | .slice _ n _ => n
  | _ => 0
def lastN (cs : List (Nat × (Nat × Nat))) : Nat := (cs.getLast?.map (·.1)).getD 0
/-- Reading, between two rounds. -/
structure Ps (w1 W : World) (tb : Nat) (sd : Nat) (lv : Value) (ls : List (Nat × Nat)) : Prop where
  box : Blk W tb 89 #[.int .u32 (sd : Int), lv]
  lst : On W 48 2 lv ls.length (flat (fun x => (inC x).toList) ls)
  below : Below w1.heap.size w1 W
  own : ∀ k, lv.ownBlock = some k → w1.heap.size ≤ k
  tz : w1.heap.size ≤ tb

section
variable {w1 W : World} {tb sd : Nat} {lv : Value} {ls : List (Nat × Nat)}
theorem Ps.drewN (h : Ps w1 W tb sd lv ls) (n : Nat) : Ps w1 (W.drewN n) tb sd lv ls := ⟨h.box.drewN n, h.lst.drewN n, below_drewN h.below n, h.own, h.tz⟩
theorem Ps.drew (h : Ps w1 W tb sd lv ls) : Ps w1 W.drew tb sd lv ls := ⟨h.box.drew, h.lst.drew, h.below.drew, h.own, h.tz⟩
theorem Ps.alloc (h : Ps w1 W tb sd lv ls) (o : Obj) : Ps w1 (W.alloc o) tb sd lv ls := ⟨h.box.alloc o, h.lst.alloc o, h.below.alloc h.below.size o, h.own, h.tz⟩
theorem Ps.set {t : Nat} {T : TypeId} {cs : Array Value} (h : Ps w1 W tb sd lv ls) (hb : Blk W t T cs) (hT : 48 ≠ T ∨ ∀ k, lv.ownBlock = some k → k ≠ t) (hT2 : 89 ≠ T) (ht : w1.heap.size ≤ t) (u : Value) (j : Nat) : Ps w1 (W.setCell ⟨t, j, none⟩ u) tb sd lv ls :=
  ⟨h.box.far (Blk.ne_ h.box hb hT2) u, h.lst.far (fun e => hT.elim (fun hT => On.blk_ne h.lst hb hT e) (fun hk => hk t e rfl)) u, h.below.setCell ht u, h.own, h.tz⟩
theorem Ps.pair (h : Ps w1 W tb sd lv ls) {t : Nat} {a b : Value} (hb : Blk W t 48 #[a, b]) (ht : w1.heap.size ≤ t) (hk : ∀ k, lv.ownBlock = some k → k ≠ t) (u v : Value) :
    Ps w1 ((W.setCell ⟨t, 0, none⟩ u).setCell ⟨t, 1, none⟩ v) tb sd lv ls ∧ Blk ((W.setCell ⟨t, 0, none⟩ u).setCell ⟨t, 1, none⟩ v) t 48 #[u, v] := by
  have h1 : Blk (W.setCell ⟨t, 0, none⟩ u) t 48 #[u, b] := Blk.set_ hb 0 u
  exact ⟨(h.set hb (.inr hk) (by decide) ht u 0).set h1 (.inr hk) (by decide) ht v 1, Blk.set_ h1 1 v⟩
theorem Ps.put (h : Ps w1 W tb sd lv ls) {x : Nat × Nat} {lv' : Value} {W' : World} (hon : On W' 48 2 lv' (ls.length + 1) (flat (fun x => (inC x).toList) ls ++ (inC x).toList)) (hg : W.grownBy W' lv.ownBlock) (hv : lv'.ownBlock = lv.ownBlock ∨ lv'.ownBlock = some W.heap.size) :
    Ps w1 (W'.setCell ⟨tb, 1, none⟩ lv') tb sd lv' (ls ++ [x]) := by
  have hb' : Blk W' tb 89 #[.int .u32 (sd : Int), lv] := h.box.grown hg (fun e => On.blk_ne h.lst h.box (by decide) e.symm)
  refine ⟨Blk.set_ hb' 1 lv', ?_, (h.below.grown hg h.below.size (fun k e => h.own k e)).setCell h.tz _, fun k e => ?_, h.tz⟩
  · have h1 := hon.far (p := ⟨tb, 1, none⟩) (fun e => On.blk_ne hon hb' (by decide) e) lv'
    rw [List.length_append, List.length_singleton, flat_snoc]
    exact h1
  · rcases hv with hv | hv
    · exact h.own k (hv ▸ e)
    · rw [hv] at e; cases e; exact h.below.size
end
theorem on_inrow {W : World} {a : Option Addr} {n c : Nat} {ls : List (Nat × Nat)} (h : On W 48 2 (.slice a n c) ls.length (flat (fun x => (inC x).toList) ls)) (hb : InB ls) : InRow W a ls := by
  refine ⟨hb, fun h0 => ?_⟩
  rcases On.form h with ⟨_, hn, _⟩ | ⟨g, cap, hv, hnc, hcm, how, hgl, hcell, hfr⟩
  · omega
  · cases hv
    refine ⟨g, 0, rfl, hgl, fun j hj => ?_⟩
    have hx : ls[j]? = some ls[j] := List.getElem?_eq_getElem hj
    obtain ⟨e0, e1⟩ := I2.inA_get hx
    have f0 := flat_get (cs := fun x => (inC x).toList) (s := 2) (fun x => rfl) ls hx (i := 0) (by omega)
    have f1 := flat_get (cs := fun x => (inC x).toList) (s := 2) (fun x => rfl) ls hx (i := 1) (by omega)
    rw [e0, e1]
    exact ⟨by rw [Nat.zero_add]; exact hcell _ _ (by rw [← Nat.add_zero (j * 2)]; exact f0), by rw [Nat.zero_add]; exact hcell _ _ f1⟩
theorem infoIn : (Try.prog.info? 48).map (fun i => (i.zero, i.size, i.bytes)) = some (some (.agg (inC (0, 0))), 2, 4) := by kernel_rfl
theorem lastN_snoc (cs : List (Nat × (Nat × Nat))) (c : Nat × (Nat × Nat)) : lastN (cs ++ [c]) = c.1 := by simp [lastN]
theorem rpq_results (tmps : Array Value) (W : World) (g sd n c : Nat) (a : Option Addr) (code : Int) (h : Blk W g 89 #[.int .u32 (sd : Int), .slice a n c]) (h4 : tmps.getD 4 undef = .pointer (some ⟨g, 0, none⟩)) (h5 : tmps.getD 5 undef = .int .i64 code) :
    (results Try.f45 tmps).run Try.prog W = .ok (.tuple #[.agg #[.int .u32 (sd : Int), .slice a n c], .int .i64 code]) W := by
  have k0 : W.cell? ⟨g, 0, none⟩ = some (.int .u32 (sd : Int)) := Blk.cell h 0
  have k1 : W.cell? ⟨g, 1, none⟩ = some (.slice a n c) := Blk.cell h 1
  have e4 : tmps[4]?.getD undef = .pointer (some ⟨g, 0, none⟩) := by simpa using h4
  have e5 : tmps[5]?.getD undef = .int .i64 code := by simpa using h5
  simp [results, Try.results45, go_sem, e4, e5, k0, k1]

def PPost (w : World) (zs : List Int) (e : Ending) (w' : World) : Prop := ∃ (sd : Nat) (ls : List (Nat × Nat)) (code : Int) (a : Option Addr) (c : Nat), e = .returned (.tuple #[.agg #[.int .u32 (sd : Int), .slice a ls.length c], .int .i64 code]) ∧ InRow w' a ls ∧ ParseR zs sd ls code ∧ Below w.heap.size w w'

set_option maxRecDepth 100000 in
set_option maxHeartbeats 8000000 in
theorem parse_any (w : World) (g : Nat) (hT : Crc.Rows w g 256) (a : Option Addr) (len c : Nat) (zs : List Int) (hrow : Row .u8 w a len zs) (hz : ∀ z ∈ zs, 0 ≤ z ∧ z < 256) (hl : len ≤ 1000000) (hc : len ≤ c) (hc2 : c ≤ 9223372036854775807) :
    Calls Try.prog 45 #[.pointer (some ⟨g, 0, none⟩), .slice a len c] w (PPost w zs) := by
  have hzl := hrow.1
  obtain ⟨hoz, hol⟩ := openL_in hz
  obtain ⟨W0, hW0⟩ : ∃ W0, W0 = w.alloc (.cells #[.int .u32 0, .slice none 0 0] 89) := ⟨_, rfl⟩
  have hr0 : Blk W0 w.heap.size 89 #[.int .u32 0, .slice none 0 0] := by rw [hW0]; exact Blk.new _ _ _
  have hB0 : Below w.heap.size w W0 := by rw [hW0]; exact (Below.refl _ w).alloc (Nat.le_refl _) _
  have pO := Lib.hid (copen_any W0 g (hT.below hB0) a len c zs (hrow.below hB0) hz hl hc hc2)
  have HB0 := Lib.hid hB0
  have HR0 := Lib.hid hr0
  clear hT hrow hB0 hr0
  go_enter Try.func45, Try.ntmps45
  go_upto_region 1 with fail
  rw [← hW0]
  clear hW0
  go_wp2_with fail
  refine pO.out.mono ?_
  rintro e w1 ⟨a1, c1, rfl, hc1, hc12, hrow1, hb1⟩
  have HR1 := Lib.hid (HR0.out.below hb1 HR0.out.lt)
  have HB1 := Lib.hid (HB0.out.trans (hb1.mono HB0.out.size))
  have hfin : ∀ (W : World) (code : Int), Below w1.heap.size w1 W → ParseR zs 0 [] code → PPost w zs (.returned (.tuple #[.agg #[.int .u32 ((0 : Nat) : Int), .slice none 0 0], .int .i64 code])) ((W.setCell ⟨w.heap.size, 0, none⟩ (.int .u32 0)).setCell ⟨w.heap.size, 1, none⟩ (.slice none 0 0)) := fun W code hb hp =>
    ⟨0, [], code, none, 0, rfl, ⟨fun x hx => by simp at hx, fun h => absurd h (Nat.not_lt_zero _)⟩, hp, ((HB1.out.trans (hb.mono HB1.out.size)).setCell (Nat.le_refl _) _).setCell (Nat.le_refl _) _⟩
  have HFIN := Lib.hid hfin
  have hset : ∀ (W : World), Below w1.heap.size w1 W → Blk ((W.setCell ⟨w.heap.size, 0, none⟩ (.int .u32 0)).setCell ⟨w.heap.size, 1, none⟩ (.slice none 0 0)) w.heap.size 89 #[.int .u32 0, .slice none 0 0] := fun W h => Blk.set_ (Blk.set_ (HR1.out.below h HR1.out.lt) 0 _) 1 _
  have HSET := Lib.hid hset
  have hrb : ∀ V, Below w1.heap.size w1 V → V.frozen? ⟨w.heap.size, 0, none⟩ = false ∧ V.frozen? ⟨w.heap.size, 1, none⟩ = false ∧ V.cell? ⟨w.heap.size, 0, none⟩ = some (.int .u32 0) ∧ V.cell? ⟨w.heap.size, 1, none⟩ = some (.slice none 0 0) := fun V hb =>
    have h := HR1.out.below hb HR1.out.lt
    ⟨h.frozen 0, h.frozen 1, h.cell 0, h.cell 1⟩
  have HRB := Lib.hid hrb
  obtain ⟨f0, f1, r0, r1⟩ := HRB.out w1 (Below.refl _ _)
  have hPR : ∀ code, openC zs ≠ 0 → code = openC zs → ParseR zs 0 [] code := fun code h e => by
    unfold ParseR; rw [if_neg h]; exact ⟨e, rfl, rfl⟩
  have HPR := Lib.hid hPR
  have hPR2 : ∀ sd ls code, openC zs = 0 → HeadR (openL zs) sd ls code → ParseR zs sd ls code := fun sd ls code h e => by
    unfold ParseR; rw [if_pos h]; exact e
  have HPR2 := Lib.hid hPR2
  clear hfin hset hPR hPR2 pO HR0 HB0 hb1 hrb
  generalize openL zs = B at *
  generalize openC zs = oc at *
  by_cases ho : oc = 0
  · subst ho
    by_cases h10 : B.length < 10
    · have h10' : (B.length : Int) < 10 := by omega
      have hp := Lib.hid (HPR2.out 0 [] 70 rfl (by unfold HeadR; rw [if_pos h10]; exact ⟨rfl, rfl, rfl⟩))
      clear hrow1
      go_wp2_with fail
      refine bodyPost_ret (v := .tuple #[.agg #[.int .u32 ((0 : Nat) : Int), .slice none 0 0], .int .i64 70]) (rpq_results _ _ w.heap.size 0 0 0 none 70 (HSET.out _ (Below.refl _ _)) (by rfl) (by rfl)) rfl (HFIN.out _ 70 (Below.refl _ _) hp.out)
    · have h10' : ¬ (B.length : Int) < 10 := by omega
      obtain ⟨b, off, rfl, hbl, -⟩ := hrow1.2 (by omega)
      have hg2 := get_any w1 (some ⟨b, off, none⟩) 2 c1 (B.take 2) (by have := row_sub hrow1 0 2 (by omega); simpa using this) (fun z h => hoz z (List.mem_of_mem_take h)) (by omega) (by omega) hc12
      have hg6 := get_any w1 (some ⟨b, off + 6, none⟩) 4 (c1 - 6) ((B.drop 6).take 4) (row_sub hrow1 6 4 (by omega)) (fun z h => hoz z (List.mem_of_mem_drop (List.mem_of_mem_take h))) (by omega) (by omega) (by omega)
      have hgs := get_any w1 (some ⟨b, off + 2, none⟩) 4 (c1 - 2) ((B.drop 2).take 4) (row_sub hrow1 2 4 (by omega)) (fun z h => hoz z (List.mem_of_mem_drop (List.mem_of_mem_take h))) (by omega) (by omega) (by omega)
      have hmg : getN (nb (B.take 2)) < 4294967296 := getN_lt4 (by simp [nb]; omega) (nb_lt (fun z h => hoz z (List.mem_of_mem_take h)))
      have hmy : getN (nb ((B.drop 6).take 4)) < 4294967296 := getN_lt4 (by simp [nb]; omega) (nb_lt (fun z h => hoz z (List.mem_of_mem_drop (List.mem_of_mem_take h))))
      have hsd : getN (nb ((B.drop 2).take 4)) < 4294967296 := getN_lt4 (by simp [nb]; omega) (nb_lt (fun z h => hoz z (List.mem_of_mem_drop (List.mem_of_mem_take h))))
      have hHD : ∀ sd ls code, HeadR B sd ls code = if mgOf B ≠ 16980 then code = 71 ∧ sd = 0 ∧ ls = [] else if 16384 < manyOf B then code = 2 ∧ sd = 0 ∧ ls = [] else (code = 0 ∧ Tp B sd ls) ∨ (code = 73 ∧ sd = 0 ∧ ls = [] ∧ ∀ s l, ¬ Tp B s l) := fun sd ls code => by
        unfold HeadR; rw [if_neg h10]
      have hsplit := fun (hm : mgOf B = 16980) => head_split hoz (by omega) hm
      rw [show getN (nb (B.take 2)) = mgOf B from rfl] at hg2 hmg
      rw [show getN (nb ((B.drop 6).take 4)) = manyOf B from rfl] at hg6 hmy
      rw [show getN (nb ((B.drop 2).take 4)) = sdOf B from rfl] at hgs hsd
      have pG2 := Lib.hid hg2
      have pG6 := Lib.hid hg6
      have pGS := Lib.hid hgs
      have HHD := Lib.hid hHD
      have HSP := Lib.hid hsplit
      have HROW := Lib.hid hrow1
      clear hg2 hg6 hgs hHD hsplit hrow1
      generalize mgOf B = mg at *
      generalize manyOf B = many at *
      generalize sdOf B = sd at *
      have k2 : (2 : Int) ≤ (c1 : Int) := by omega
      have k6 : (6 : Int) ≤ (c1 : Int) := by omega
      have k10 : (10 : Int) ≤ (c1 : Int) := by omega
      have k10' : (10 : Int) ≤ (B.length : Int) := by omega
      have kb : (B.length : Int) ≤ (c1 : Int) := by omega
      by_cases hm : mg = 16980
      · by_cases hlong : 16384 < many
        · have hp := Lib.hid (HPR2.out 0 [] 2 rfl (by rw [HHD.out, if_neg (by simp [hm]), if_pos hlong]; exact ⟨rfl, rfl, rfl⟩))
          have hlong' : (16384 : Int) < (many : Int) := by omega
          rw [hm] at pG2
          clear HHD HSP hm
          go_wp2_with (first
            | (go_at_call 95; (with_reducible refine pG2.out.mono ?_); rintro e w2 ⟨rfl, rfl⟩)
            | (go_at_call 95; (with_reducible refine pG6.out.mono ?_); rintro e w2 ⟨rfl, rfl⟩)
            | fail)
          refine bodyPost_ret (v := .tuple #[.agg #[.int .u32 ((0 : Nat) : Int), .slice none 0 0], .int .i64 2]) (rpq_results _ _ w.heap.size 0 0 0 none 2 (HSET.out _ (Below.refl _ _)) (by rfl) (by rfl)) rfl (HFIN.out _ 2 (Below.refl _ _) hp.out)
        · have hlong' : ¬ (16384 : Int) < (many : Int) := by omega
          have hB := HSP.out hm
          have hp : ∀ sd ls code, ((code = 0 ∧ Tp B sd ls) ∨ (code = 73 ∧ sd = 0 ∧ ls = [] ∧ ∀ s l, ¬ Tp B s l)) → ParseR zs sd ls code := fun sd ls code h => HPR2.out sd ls code rfl (by rw [HHD.out, if_neg (by simp [hm]), if_neg hlong]; exact h)
          have HP := Lib.hid hp
          have HBB := Lib.hid hB
          rw [hm] at pG2
          have hw1 : IntKind.i64.wrap (many : Int) = (many : Int) := IntWalk.i64_in _ (by omega)
          have hw2 : IntKind.u32.wrap (sd : Int) = (sd : Int) := by simp [IntKind.wrap, IntKind.bits, IntKind.signed]; omega
          have hmany : many ≤ 16384 := by omega
          clear HHD HSP hm hp hB hlong
          have hrd := row_drop HROW.out 10 (by omega)
          have HRD := Lib.hid hrd
          have hc10 : c1 = 10 → B.length - 10 = 0 := fun h => by omega
          have HC10 := Lib.hid hc10
          clear hrd hc10
          go_upto_region 13 with (first
            | (go_at_call 95; (with_reducible refine pG2.out.mono ?_); rintro e w2 ⟨rfl, rfl⟩)
            | (go_at_call 95; (with_reducible refine pG6.out.mono ?_); rintro e w2 ⟨rfl, rfl⟩)
            | (go_at_call 95; (with_reducible refine pGS.out.mono ?_); rintro e w2 ⟨rfl, rfl⟩)
            | fail)
          go_cut [6] (fun bv wx => ∃ ad, bv = .slice ad (B.length - 10) (c1 - 10) ∧ Row .u8 w1 ad (B.length - 10) (B.drop 10) ∧ wx = w1.alloc (.cells #[.int .u32 (sd : Int), .slice none 0 0] 89))
          case first =>
            go_wp2_with fail
            all_goals go_meet
            · refine ⟨some ⟨b, off, none⟩, by rw [show c1 - 10 = 0 by omega], ?_, rfl⟩
              have h0 := HC10.out (by assumption)
              rw [h0]
              exact ⟨by rw [List.length_drop, h0], fun h => absurd h (Nat.not_lt_zero _)⟩
            · exact ⟨_, rfl, HRD.out, rfl⟩
          case rest =>
            obtain ⟨ad0, rfl, hrow0, rfl⟩ := hcut
            have hlen0 : (B.drop 10).length = B.length - 10 := List.length_drop
            have hdz : ∀ z ∈ B.drop 10, 0 ≤ z ∧ z < 256 := fun z h => hoz z (List.mem_of_mem_drop h)
            rw [← hlen0] at hrow0 ⊢
            generalize B.drop 10 = R0 at *
            have hcb0 : R0.length ≤ c1 - 10 := by omega
            have hcb9 : c1 - 10 ≤ 9223372036854775807 := by omega
            generalize c1 - 10 = cb0 at *
            have hB0 := HBB.out
            have HRW0 := Lib.hid hrow0
            have HDZ := Lib.hid hdz
            have hPs0 : Ps w1 (w1.alloc (.cells #[.int .u32 (sd : Int), .slice none 0 0] 89)) w1.heap.size sd (.slice none 0 0) [] :=
              ⟨Blk.new _ _ _, On.nil _ _ _, (Below.refl _ w1).alloc (Nat.le_refl _) _, fun k h => by simp [Value.ownBlock] at h, Nat.le_refl _⟩
            have HPS0 := Lib.hid hPs0
            have HBB0 := Lib.hid hB0
            clear HBB hrow0 hdz hlen0 HRD HC10 hoz hB0 hPs0 pG2 pG6 pGS HPR HPR2 f0 f1 r0 r1 HROW
            go_wp2_with fail
            go_loopw [6, 10] (fun bv lv wr => ∃ (cs : List (Nat × (Nat × Nat))) (R : List Int) (ad : Option Addr) (cb : Nat) (lw : Value), bv = .slice ad R.length cb ∧ R.length ≤ cb ∧ cb ≤ 9223372036854775807 ∧ Row .u8 w1 ad R.length R ∧ (∀ z ∈ R, 0 ≤ z ∧ z < 256) ∧ Canon cs ∧ B = headB (sd : Int) many ++ (cs.flatMap runB ++ R) ∧ (expL cs).length ≤ many ∧ lv = .int .i64 (lastN cs : Int) ∧ Ps w1 wr w1.heap.size sd lw (expL cs)) (fun bv _ _ => slN bv)
            case atStart => exact ⟨[], R0, ad0, cb0, .slice none 0 0, rfl, hcb0, hcb9, HRW0.out, HDZ.out, trivial, HBB0.out, Nat.zero_le _, rfl, HPS0.out⟩
            case round =>
              clear HPS0 HBB0 HRW0 HDZ
              obtain ⟨cs, R, ad, cb, lw, rfl, hRc, hcb, hrw, hRz, hcan, hB, hle, rfl, hPs⟩ := hrel
              obtain ⟨aL, cL, rfl, hLc, hLm⟩ := On.slice hPs.lst
              obtain ⟨nL, hnL⟩ : ∃ n, n = (expL cs).length := ⟨_, rfl⟩
              rw [← hnL] at hPs hle hLc
              have q1 : wr.cell? ⟨w1.heap.size, 1, none⟩ = some (.slice aL nL cL) := hPs.box.cell 1
              have q0 : wr.cell? ⟨w1.heap.size, 0, none⟩ = some (.int .u32 (sd : Int)) := hPs.box.cell 0
              obtain ⟨f0, f1, r0, r1⟩ := HRB.out wr hPs.below
              generalize wr = V at *
              have HPS := Lib.hid hPs
              have HCAN := Lib.hid hcan
              have HB := Lib.hid hB
              have HNL := Lib.hid hnL
              rcases Nat.eq_zero_or_pos R.length with hR0 | hR0
              · have hR : R = [] := List.eq_nil_of_length_eq_zero hR0
                rw [hR0]
                by_cases hend : nL = many
                · have hg := Lib.hid (HP.out sd (expL cs) 0 (.inl ⟨rfl, good_end hsd hmany hcan hB hR (by rw [← hnL]; exact hend)⟩))
                  have hend' : ((nL : Int) == (many : Int)) = true := by simp [hend]
                  clear hend hB hcan hPs hnL hrw hRz
                  go_wp2_with fail
                  have hbl2 : Blk ((V.setCell ⟨w.heap.size, 0, none⟩ (.int .u32 (sd : Int))).setCell ⟨w.heap.size, 1, none⟩ (.slice aL nL cL)) w.heap.size 89 #[.int .u32 (sd : Int), .slice aL nL cL] := Blk.set_ (Blk.set_ (HR1.out.below HPS.out.below HR1.out.lt) 0 _) 1 _
                  have hne : ∀ k, Value.ownBlock (.slice aL nL cL) = some k → k ≠ w.heap.size := fun k e => by
                    have := HPS.out.own k e
                    have := HR1.out.lt
                    omega
                  have hon2 := (HPS.out.lst.far (p := ⟨w.heap.size, 0, none⟩) (fun e => hne _ e rfl) (.int .u32 (sd : Int))).far (p := ⟨w.heap.size, 1, none⟩) (fun e => hne _ e rfl) (.slice aL nL cL)
                  refine bodyPost_ret (v := .tuple #[.agg #[.int .u32 (sd : Int), .slice aL nL cL], .int .i64 0]) (rpq_results _ _ w.heap.size sd nL cL aL 0 hbl2 (by rfl) (by rfl)) rfl
                    ⟨sd, expL cs, 0, aL, cL, by rw [← HNL.out], on_inrow hon2 (expL_in HCAN.out), hg.out, ((HB1.out.trans (HPS.out.below.mono HB1.out.size)).setCell (Nat.le_refl _) _).setCell (Nat.le_refl _) _⟩
                · have hg := Lib.hid (HP.out 0 [] 73 (.inr ⟨rfl, rfl, rfl, fail_end hsd hmany hcan hB hR (by rw [← hnL]; exact hend)⟩))
                  have hend' : ((nL : Int) == (many : Int)) = false := by simp; omega
                  clear hend hB hcan hPs hnL hrw hRz
                  go_wp2_with fail
                  refine bodyPost_ret (v := .tuple #[.agg #[.int .u32 ((0 : Nat) : Int), .slice none 0 0], .int .i64 73]) (rpq_results _ _ w.heap.size 0 0 0 none 73 (HSET.out _ HPS.out.below) (by rfl) (by rfl)) rfl (HFIN.out _ 73 HPS.out.below hg.out)
              · have hR0' : (0 : Int) < (R.length : Int) := by omega
                obtain ⟨bb, oo, rfl, hbb, hcl⟩ := hrw.2 hR0
                have hc0 := hcl 0 hR0
                rw [Nat.add_zero] at hc0
                have hcV : V.cell? ⟨bb, oo, none⟩ = some (.int .u8 (nth R 0)) := (hPs.below.cell hbb).trans hc0
                have HRW := Lib.hid hrw
                by_cases c1 : R.length < 5
                · have c1' : (R.length : Int) < 5 := by omega
                  have hg := Lib.hid (HP.out 0 [] 73 (.inr ⟨rfl, rfl, rfl, fail_short hsd hmany hcan hB hR0 c1⟩))
                  clear hB hcan hPs hnL hrw hRz hcl
                  go_upto_region 16 with fail
                  go_quiet (fail)
                  go_wp2_with fail
                  refine bodyPost_ret (v := .tuple #[.agg #[.int .u32 ((0 : Nat) : Int), .slice none 0 0], .int .i64 73]) (rpq_results _ _ w.heap.size 0 0 0 none 73 (HSET.out _ (below_drewN HPS.out.below _)) (by rfl) (by rfl)) rfl (HFIN.out _ 73 (below_drewN HPS.out.below _) hg.out)
                · have c1' : decide ((R.length : Int) < 5) = false := by simp; omega
                  obtain ⟨n0, x0, x1, hn0, hx0, hx1, e0, ex, ey, hRR⟩ := chunk hRz (by omega)
                  rw [e0] at hcV
                  by_cases z0 : n0 = 0
                  · have z0' : ((n0 : Int) == 0) = true := by simp [z0]
                    have hg := Lib.hid (HP.out 0 [] 73 (.inr ⟨rfl, rfl, rfl, fail_zero hsd hmany hcan hB hR0 (by rw [e0, z0]; rfl)⟩))
                    clear hB hcan hPs hnL hrw hRz hcl e0 ex ey hRR hc0 z0
                    go_upto_region 16 with fail
                    go_quiet (fail)
                    go_wp2_with fail
                    refine bodyPost_ret (v := .tuple #[.agg #[.int .u32 ((0 : Nat) : Int), .slice none 0 0], .int .i64 73]) (rpq_results _ _ w.heap.size 0 0 0 none 73 (HSET.out _ (below_drewN HPS.out.below _)) (by rfl) (by rfl)) rfl (HFIN.out _ 73 (below_drewN HPS.out.below _) hg.out)
                  · have z0' : ((n0 : Int) == 0) = false := by simp; omega
                    have hwn0 : IntKind.i64.wrap (n0 : Int) = (n0 : Int) := IntWalk.i64_in _ (by omega)
                    have hwn : IntKind.i64.wrap ((nL : Int) + (n0 : Int)) = (nL : Int) + (n0 : Int) := IntWalk.i64_in _ (by omega)
                    by_cases hmn : many < nL + n0
                    · have hmn' : (many : Int) < (nL : Int) + (n0 : Int) := by omega
                      have hg := Lib.hid (HP.out 0 [] 73 (.inr ⟨rfl, rfl, rfl, fail_many hsd hmany hcan hB hR0 e0 (by rw [← hnL]; exact hmn)⟩))
                      clear hB hcan hPs hnL hrw hRz hcl e0 ex ey hRR hc0 z0 hmn
                      go_upto_region 16 with fail
                      go_quiet (fail)
                      go_wp2_with fail
                      refine bodyPost_ret (v := .tuple #[.agg #[.int .u32 ((0 : Nat) : Int), .slice none 0 0], .int .i64 73]) (rpq_results _ _ w.heap.size 0 0 0 none 73 (HSET.out _ (below_drewN HPS.out.below _)) (by rfl) (by rfl)) rfl (HFIN.out _ 73 (below_drewN HPS.out.below _) hg.out)
                    · have hmn' : ¬ (many : Int) < (nL : Int) + (n0 : Int) := by omega
                      have hbd : Bd (n0, (x0, x1)) := ⟨by simp; omega, by simp; omega, hx0, hx1⟩
                      have HBD := Lib.hid hbd
                      have HRR := Lib.hid hRR
                      have k5 : (5 : Int) ≤ (R.length : Int) := by omega
                      have kcb : (R.length : Int) ≤ (cb : Int) := by omega
                      have k1 : (1 : Int) ≤ (cb : Int) := by omega
                      have k3 : (3 : Int) ≤ (cb : Int) := by omega
                      have k5c : (5 : Int) ≤ (cb : Int) := by omega
                      have m1 : ¬ cb = 1 := by omega
                      have m3 : ¬ cb = 3 := by omega
                      have gx' : ∀ W, Below w1.heap.size w1 W → Calls Try.prog 95 #[.slice (some ⟨bb, oo + 1, none⟩) 2 (cb - 1)] W fun e w' => e = .returned (.int .u64 (x0 : Int)) ∧ W = w' := fun W hb => by
                        have := get_any W (some ⟨bb, oo + 1, none⟩) 2 (cb - 1) ((R.drop 1).take 2) (row_sub (HRW.out.below hb) 1 2 (by omega)) (fun z h => hRz z (List.mem_of_mem_drop (List.mem_of_mem_take h))) (by omega) (by omega) (by omega)
                        rw [ex] at this
                        exact this
                      have gy' : ∀ W, Below w1.heap.size w1 W → Calls Try.prog 95 #[.slice (some ⟨bb, oo + 3, none⟩) 2 (cb - 3)] W fun e w' => e = .returned (.int .u64 (x1 : Int)) ∧ W = w' := fun W hb => by
                        have := get_any W (some ⟨bb, oo + 3, none⟩) 2 (cb - 3) ((R.drop 3).take 2) (row_sub (HRW.out.below hb) 3 2 (by omega)) (fun z h => hRz z (List.mem_of_mem_drop (List.mem_of_mem_take h))) (by omega) (by omega) (by omega)
                        rw [ey] at this
                        exact this
                      have HC0 := Lib.hid (show w1.cell? ⟨bb, oo, none⟩ = some (.int .u8 (n0 : Int)) by rw [← e0]; exact hc0)
                      have gx := Lib.hid gx'
                      have gy := Lib.hid gy'
                      have HRZ := Lib.hid hRz
                      have hwx : IntKind.u16.wrap (x0 : Int) = (x0 : Int) := by simp [IntKind.wrap, IntKind.bits, IntKind.signed]; omega
                      have hwy : IntKind.u16.wrap (x1 : Int) = (x1 : Int) := by simp [IntKind.wrap, IntKind.bits, IntKind.signed]; omega
                      clear hB hcan hPs hnL hrw hRz hcl e0 ex ey hRR hc0 z0 hmn gx' gy' hbd
                      go_upto_region 16 with fail
                      go_quiet (fail)
                      go_upto_region 18 with fail
                      have hPU := HPS.out.drewN nq
                      generalize V.drewN nq = U at *
                      have HPU := Lib.hid hPU
                      have qU : U.drew.cell? ⟨w1.heap.size, 0, none⟩ = some (.int .u32 (sd : Int)) := hPU.drew.box.cell 0
                      have HBd := hPU.drew.below
                      have hPa := (hPU.alloc (.cells #[.int .u16 0, .int .u16 0] 48)).drew
                      have HBa := hPa.below
                      have qa : (U.alloc (.cells #[.int .u16 0, .int .u16 0] 48)).drew.cell? ⟨w1.heap.size, 0, none⟩ = some (.int .u32 (sd : Int)) := hPa.box.cell 0
                      have hko : ∀ k, Value.ownBlock (.slice aL nL cL) = some k → k ≠ U.heap.size := fun k e => by
                        have := On.lt hPU.lst k e
                        omega
                      have sA := hPa.pair (Blk.drew (Blk.new U 48 #[.int .u16 0, .int .u16 0])) hPU.below.size hko (.int .u16 (x0 : Int)) (.int .u16 (x1 : Int))
                      have hPb := hPU.drew.alloc (.cells #[.int .u16 0, .int .u16 0] 48)
                      have sB := hPb.pair (t := U.heap.size) (Blk.new U.drew 48 #[.int .u16 0, .int .u16 0]) hPU.below.size hko (.int .u16 (x0 : Int)) (.int .u16 (x1 : Int))
                      have qA := sA.1.box.cell 0
                      have qB := sB.1.box.cell 0
                      have hPc := hPU.drew.alloc (.cells #[.int .u16 (x0 : Int), .int .u16 (x1 : Int)] 48)
                      have sC := (⟨hPc, Blk.new U.drew 48 #[.int .u16 (x0 : Int), .int .u16 (x1 : Int)]⟩ : _ ∧ _)
                      have qC := hPc.box.cell 0
                      have hUz := hPU.below.size
                      clear hPU hPa hPb hPc q0 q1 f0 f1 r0 r1 hcV
                      go_cut [11] (fun p wx => ∃ ib, p = .pointer (some ⟨ib, 0, none⟩) ∧ w1.heap.size ≤ ib ∧ Blk wx ib 48 #[.int .u16 (x0 : Int), .int .u16 (x1 : Int)] ∧ Ps w1 wx w1.heap.size sd (.slice aL nL cL) (expL cs) ∧ ∀ k, Value.ownBlock (.slice aL nL cL) = some k → k ≠ ib)
                      case first =>
                        go_region_held3 (fun W => W.cell? ⟨w1.heap.size, 0, none⟩ = some (.int .u32 (sd : Int))) (first | exact qU | exact qa | exact qA | exact qB | exact qC | fail "no keep")
                          (first
                            | (go_at_call 95; (with_reducible refine (gx.out _ HBd).mono ?_); rintro e wA ⟨rfl, rfl⟩)
                            | (go_at_call 95; (with_reducible refine (gx.out _ HBa).mono ?_); rintro e wA ⟨rfl, rfl⟩)
                            | (go_at_call 95; (with_reducible refine (gy.out _ HBd).mono ?_); rintro e wA ⟨rfl, rfl⟩)
                            | (go_at_call 95; (with_reducible refine (gy.out _ HBa).mono ?_); rintro e wA ⟨rfl, rfl⟩)
                            | fail "no arm")
                        all_goals
                          go_wp2_with fail
                          go_meet
                          first
                            | exact ⟨U.heap.size, rfl, hUz, sA.2, sA.1, hko⟩
                            | exact ⟨U.heap.size, rfl, hUz, sB.2, sB.1, hko⟩
                            | exact ⟨U.heap.size, rfl, hUz, sC.2, sC.1, hko⟩
                            | fail
                      case rest =>
                        obtain ⟨ib, rfl, hib, hIn, hPw, hki⟩ := hcut
                        clear sA sB sC qA qB qC qU qa HBd HBa hko hUz HPU gx gy HPS
                        have q1 : wc.cell? ⟨w1.heap.size, 1, none⟩ = some (.slice aL nL cL) := hPw.box.cell 1
                        have i0 : wc.cell? ⟨ib, 0, none⟩ = some (.int .u16 (x0 : Int)) := hIn.cell 0
                        have i1 : wc.cell? ⟨ib, 1, none⟩ = some (.int .u16 (x1 : Int)) := hIn.cell 1
                        have HPW := Lib.hid hPw
                        have HIN := Lib.hid hIn
                        have HKI := Lib.hid hki
                        clear hPw hIn hki
                        go_upto_region 20 with fail
                        go_cut [109] (fun bv wx => ∃ t : Bool, bv = .bool t ∧ (t = true → ParseR zs 0 [] 73) ∧ (t = false → ∀ e, cs.getLast? = some e → e.1 < 255 → (x0, x1) ≠ e.2) ∧ ∃ d, wx = wc.drewN d)
                        case first =>
                          cases hlast : cs.getLast? with
                          | none =>
                            have hcs : cs = [] := by simpa using hlast
                            have hn : nL = 0 := by rw [HNL.out, hcs]; rfl
                            have hd := Lib.hid (show ∀ e : Nat × (Nat × Nat), cs.getLast? = some e → e.1 < 255 → (x0, x1) ≠ e.2 from fun e he => by rw [hlast] at he; cases he)
                            have hn' : decide ((0 : Int) < (nL : Int)) = false := by simp; omega
                            have hn2 : decide (0 < nL) = false := by simp; omega
                            clear hcs hlast hn
                            go_quiet (fail)
                            go_wp2_with fail
                            go_meet
                            exact ⟨false, rfl, (fun h => by cases h), fun _ => hd.out, nq, rfl⟩
                          | some e =>
                            have he1 : 1 ≤ e.1 := (canon_bd HCAN.out e (List.mem_of_getLast? hlast)).1
                            have hel := expL_last hlast he1
                            have hnp : 0 < nL := by
                              rw [HNL.out]
                              cases hh : expL cs with
                              | nil => rw [hh] at hel; simp at hel
                              | cons y l => simp
                            obtain ⟨mL, hmL⟩ : ∃ m, nL = m + 1 := ⟨nL - 1, by omega⟩
                            have hget : (expL cs)[mL]? = some e.2 := by
                              rw [List.getLast?_eq_getElem?] at hel
                              rw [← hel, ← HNL.out]
                              congr 1
                              omega
                            have hlv : lastN cs = e.1 := by simp [lastN, hlast]
                            have hne' : (0 : Int) < (nL : Int) := by omega
                            have hwm : IntKind.i64.wrap ((nL : Int) - 1) = (mL : Int) := by rw [IntWalk.i64_in _ (by omega)]; omega
                            have hm0 : (0 : Int) ≤ (mL : Int) := by omega
                            have hm1 : (mL : Int) < (nL : Int) := by omega
                            have hb0 := expL_in HCAN.out e.2 (List.mem_of_getElem? hget)
                            have hi0 := HBD.out.2.2
                            simp only at hi0
                            rcases On.form HPW.out.lst with ⟨_, hnn, _⟩ | ⟨gL, capL, hvL, hncL, hcmL, howL, hglL, hcellL, hfrL⟩
                            · exact absurd hnn (by rw [← HNL.out]; omega)
                            · injection hvL with hv1 hv2 hv3
                              subst hv1
                              clear hv2 hv3
                              have g0 := flat_get (cs := fun x => (inC x).toList) (s := 2) (fun x => rfl) (expL cs) hget (i := 0) (by omega)
                              have g1 := flat_get (cs := fun x => (inC x).toList) (s := 2) (fun x => rfl) (expL cs) hget (i := 1) (by omega)
                              have l0 : wc.cell? ⟨gL, mL * 2, none⟩ = some (.int .u16 (e.2.1 : Int)) := hcellL _ _ (by rw [← Nat.add_zero (mL * 2)]; exact g0)
                              have l1 : wc.cell? ⟨gL, mL * 2 + 1, none⟩ = some (.int .u16 (e.2.2 : Int)) := hcellL _ _ g1
                              have hEq0 := fun W => in_eql W e.2 (x0, x1) hb0 hi0
                              have hfn := fun (hx : e.2 = (x0, x1)) (hlt : e.1 < 255) => fail_next hsd hmany HCAN.out HB.out HBD.out HRR.out hlast hlt hx.symm
                              have HLAST := Lib.hid hlast
                              obtain ⟨e1, y0, y1⟩ := e
                              simp only at l0 l1 hlv hfn he1
                              clear g0 g1 hcellL hfrL hglL howL hcmL hncL hget hel hlast hmL
                              by_cases hx : (y0, y1) = (x0, x1)
                              · have hEq : ∀ W, (Op.equalIn 10000 48 (.agg #[.int .u16 (y0 : Int), .int .u16 (y1 : Int)]) (.agg #[.int .u16 (x0 : Int), .int .u16 (x1 : Int)])).run Try.prog W = .ok true W := fun W => by
                                  have := hEq0 W
                                  rw [decide_eq_true hx] at this
                                  exact this
                                by_cases hlt : e1 < 255
                                · have hp := Lib.hid (HP.out 0 [] 73 (.inr ⟨rfl, rfl, rfl, hfn hx hlt⟩))
                                  clear hx
                                  have hl' : (lastN cs : Int) < 255 := by rw [hlv]; omega
                                  clear hEq0 hfn hlv
                                  go_quiet (fail)
                                  go_wp2_with fail
                                  go_meet
                                  exact ⟨true, rfl, fun _ => hp.out, (fun h => by cases h), nq, rfl⟩
                                · have hl' : ¬ (lastN cs : Int) < 255 := by rw [hlv]; omega
                                  have hd := Lib.hid (show ∀ e : Nat × (Nat × Nat), cs.getLast? = some e → e.1 < 255 → (x0, x1) ≠ e.2 from fun e he h5 => by
                                    rw [HLAST.out] at he
                                    cases he
                                    exact absurd h5 hlt)
                                  clear hEq0 hfn hlv hx
                                  go_quiet (fail)
                                  go_wp2_with fail
                                  go_meet
                                  exact ⟨false, rfl, (fun h => by cases h), fun _ => hd.out, nq, rfl⟩
                              · have hEq : ∀ W, (Op.equalIn 10000 48 (.agg #[.int .u16 (y0 : Int), .int .u16 (y1 : Int)]) (.agg #[.int .u16 (x0 : Int), .int .u16 (x1 : Int)])).run Try.prog W = .ok false W := fun W => by
                                  have := hEq0 W
                                  rw [decide_eq_false hx] at this
                                  exact this
                                have hd := Lib.hid (show ∀ e : Nat × (Nat × Nat), cs.getLast? = some e → e.1 < 255 → (x0, x1) ≠ e.2 from fun e he h5 => by
                                    rw [HLAST.out] at he
                                    cases he
                                    exact fun h => hx h.symm)
                                clear hEq0 hfn hlv hx
                                go_quiet (fail)
                                go_wp2_with fail
                                go_meet
                                exact ⟨false, rfl, (fun h => by cases h), fun _ => hd.out, nq, rfl⟩
                        case rest =>
                          obtain ⟨t, rfl, ht, hf, d, rfl⟩ := hcut
                          have HX := Lib.hid (below_drewN HPW.out.below d)
                          cases t
                          · have HNX := Lib.hid (hf rfl)
                            have hPX := HPW.out.drewN d
                            have hIX := HIN.out.drewN d
                            generalize wc.drewN d = X at *
                            have HPX := Lib.hid hPX
                            have HIX := Lib.hid hIX
                            have cX : X.cell? ⟨bb, oo, none⟩ = some (.int .u8 (n0 : Int)) := (hPX.below.cell hbb).trans HC0.out
                            have hmin : (if (5 : Int) < (R.length : Int) then (5 : Int) else (R.length : Int)) = 5 := by split <;> omega
                            have hnm : nL + n0 ≤ many := by omega
                            clear ht hf q1 i0 i1 HPW HIN hPX hIX
                            go_wp2_with fail
                            go_loopw [116] (fun iv wr => ∃ (j : Nat) (lv' : Value), j ≤ n0 ∧ iv = .int .i64 (j : Int) ∧ Ps w1 wr w1.heap.size sd lv' (expL cs ++ List.replicate j (x0, x1)) ∧ Blk wr ib 48 #[.int .u16 (x0 : Int), .int .u16 (x1 : Int)] ∧ ∀ k, lv'.ownBlock = some k → k ≠ ib) (fun iv _ => ((n0 : Int) - intOf iv).toNat)
                            case atStart => exact ⟨0, _, Nat.zero_le _, rfl, by simpa using HPX.out, HIX.out, HKI.out⟩
                            case round =>
                              obtain ⟨j, lv', hj, rfl, hP, hI, hK⟩ := hrel
                              generalize wr = Y at *
                              clear cX
                              by_cases hlt : j < n0
                              · obtain ⟨aJ, cJ, rfl, hcJ, hmJ⟩ := On.slice hP.lst
                                have hlen : (expL cs ++ List.replicate j (x0, x1)).length = nL + j := by rw [List.length_append, List.length_replicate, HNL.out]
                                obtain ⟨m, hm⟩ : ∃ m, m = (expL cs ++ List.replicate j (x0, x1)).length := ⟨_, rfl⟩
                                have hP2 := hP
                                rw [← hm] at hP2 hK
                                have hm2 : m ≤ 16384 := by omega
                                have j0 : (j : Int) < (n0 : Int) := by omega
                                have y1 : Y.cell? ⟨w1.heap.size, 1, none⟩ = some (.slice aJ m cJ) := hP2.box.cell 1
                                have i0 : Y.cell? ⟨ib, 0, none⟩ = some (.int .u16 (x0 : Int)) := hI.cell 0
                                have i1 : Y.cell? ⟨ib, 1, none⟩ = some (.int .u16 (x1 : Int)) := hI.cell 1
                                have hPa := hP2.alloc (.cells #[.int .u16 (x0 : Int), .int .u16 (x1 : Int)] 48)
                                have hIa := hI.alloc (.cells #[.int .u16 (x0 : Int), .int .u16 (x1 : Int)] 48)
                                have HPA := Lib.hid hPa
                                have HIA := Lib.hid hIa
                                have hOa := hPa.lst
                                rw [← hm] at hOa
                                have HOA := Lib.hid hOa
                                have HM := Lib.hid hm
                                have HK := Lib.hid hK
                                have hibl := hI.lt
                                have hnext : ((expL cs ++ List.replicate j (x0, x1)) ++ [(x0, x1)]) = expL cs ++ List.replicate (j + 1) (x0, x1) := by rw [List.append_assoc, ← List.replicate_succ']
                                have HNE := Lib.hid hnext
                                have hwj : IntKind.i64.wrap ((j : Int) + 1) = ((j + 1 : Nat) : Int) := by rw [IntWalk.i64_in _ (by omega)]; rfl
                                obtain ⟨iI, hiI, hz0, hz1, hz2⟩ := info_parts infoIn
                                clear hP hP2 hI hPa hIa hOa hm hK hnext hlen
                                generalize expL cs ++ List.replicate j (x0, x1) = lj at *
                                go_wp2_with (first
                                  | (at_builtin; refine wpList_append_on _ (by rfl) _ _ 23 (by rfl) 48 iI _ 2 4 Try.underlying23 hiI hz0 hz1 hz2 (by rfl) (by omega) (.slice aJ m cJ) m (flat (fun x => (inC x).toList) lj) (by rfl) HOA.out (some ⟨Y.heap.size, 0, none⟩) 1 1 [.int .u16 (x0 : Int), .int .u16 (x1 : Int)] (by rfl) (by rfl) (src_new Y 48 1 [.int .u16 (x0 : Int), .int .u16 (x1 : Int)]) (by intro u hu; simp at hu; rcases hu with rfl | rfl <;> rfl) (by simp only [maxLen]; omega) (by omega) ?_; intro v' w' hon hg hv'; obtain ⟨aV, cV, hvV, -, -⟩ := On.slice hon; subst hvV; have hbx : Blk w' w1.heap.size 89 #[.int .u32 (sd : Int), .slice aJ m cJ] := HPA.out.box.grown hg (fun e => On.blk_ne HPA.out.lst HPA.out.box (by decide) e.symm); have bz := hbx.frozen 1; have bc := hbx.cell 1)
                                  | fail)
                                have hon1 : On w' 48 2 (.slice aV (m + 1) cV) (lj.length + 1) (flat (fun x => (inC x).toList) lj ++ (inC (x0, x1)).toList) := by rw [← HM.out]; exact hon
                                have hput := HPA.out.put (x := (x0, x1)) hon1 hg hv'
                                rw [HNE.out] at hput
                                have hne2 : Value.ownBlock (.slice aJ m cJ) ≠ some ib := fun e => HK.out ib e rfl
                                have hib1 := (HIA.out.grown hg (fun e => hne2 e.symm)).far (p := ⟨w1.heap.size, 1, none⟩) (Blk.ne_ (HIA.out.grown hg (fun e => hne2 e.symm)) hbx (by decide)) (.slice aV (m + 1) cV)
                                exact ⟨⟨j + 1, _, by omega, by simp, hput, hib1, fun k e => by
                                  rcases hv' with h | h
                                  · exact HK.out k (h ▸ e)
                                  · rw [h] at e
                                    cases e
                                    simp
                                    omega⟩, by simp [intOf]; omega⟩
                              · obtain rfl : j = n0 := by omega
                                have hP3 : Ps w1 Y w1.heap.size sd lv' (expL (cs ++ [(j, (x0, x1))])) := by rw [expL_snoc]; exact hP
                                have HP3 := Lib.hid hP3
                                have HRD := Lib.hid (row_drop HRW.out 5 (by omega))
                                have hl5 : (R.drop 5).length = R.length - 5 := List.length_drop
                                have HL5 := Lib.hid hl5
                                clear hP hI hK hP3 hl5
                                go_wp2_with fail
                                refine ⟨⟨cs ++ [(j, (x0, x1))], R.drop 5, (if cb = 5 then some ⟨bb, oo, none⟩ else some ⟨bb, oo + 5, none⟩), cb - 5, lv', by rw [HL5.out], by rw [HL5.out]; omega, by omega, ?_, fun z h => HRZ.out z (List.mem_of_mem_drop h), canon_snoc HCAN.out HBD.out (fun e he h5 => HNX.out e he h5), ?_, ?_, by rw [lastN_snoc], HP3.out⟩, ?_⟩
                                · rw [HL5.out]
                                  by_cases h5 : cb = 5
                                  · rw [if_pos h5, show R.length - 5 = 0 by omega]
                                    exact ⟨by rw [HL5.out]; omega, fun h => absurd h (Nat.not_lt_zero _)⟩
                                  · rw [if_neg h5]
                                    exact HRD.out
                                · rw [List.flatMap_append, List.flatMap_singleton, List.append_assoc, ← HRR.out]
                                  exact HB.out
                                · rw [expL_snoc, List.length_append, List.length_replicate, ← HNL.out]
                                  exact hnm
                                · show R.length - 5 < R.length
                                  omega
                          · have hg := ht rfl
                            obtain ⟨f0, f1, r0, r1⟩ := HRB.out _ HX.out
                            clear ht hf
                            go_wp2_with fail
                            refine bodyPost_ret (v := .tuple #[.agg #[.int .u32 ((0 : Nat) : Int), .slice none 0 0], .int .i64 73]) (rpq_results _ _ w.heap.size 0 0 0 none 73 (HSET.out _ HX.out) (by rfl) (by rfl)) rfl (HFIN.out _ 73 HX.out hg)
      · have hp := Lib.hid (HPR2.out 0 [] 71 rfl (by rw [HHD.out, if_pos hm]; exact ⟨rfl, rfl, rfl⟩))
        have hm' : ((mg : Int) == 16980) = false := by simp; omega
        clear HHD HSP hm
        go_wp2_with (first
          | (go_at_call 95; (with_reducible refine pG2.out.mono ?_); rintro e w2 ⟨rfl, rfl⟩)
          | fail)
        refine bodyPost_ret (v := .tuple #[.agg #[.int .u32 ((0 : Nat) : Int), .slice none 0 0], .int .i64 71]) (rpq_results _ _ w.heap.size 0 0 0 none 71 (HSET.out _ (Below.refl _ _)) (by rfl) (by rfl)) rfl (HFIN.out _ 71 (Below.refl _ _) hp.out)
  · have ho' : (oc == 0) = false := by simp [ho]
    have hp := Lib.hid (HPR.out oc ho rfl)
    go_wp2_with fail
    refine bodyPost_ret (v := .tuple #[.agg #[.int .u32 ((0 : Nat) : Int), .slice none 0 0], .int .i64 oc]) (rpq_results _ _ w.heap.size 0 0 0 none oc (HSET.out _ (Below.refl _ _)) (by rfl) (by rfl)) rfl (HFIN.out _ oc (Below.refl _ _) hp.out)
end Go.Proofs.Ytblnfkhaicjeaaa.Spe
