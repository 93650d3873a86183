/-
  Package ring at element type saved.entry: At, Put, Reset.
-/
import Derived.Test.YtblnfkhaicjeaaaRingE
namespace Go.Proofs.Ytblnfkhaicjeaaa.RingE
open Go.RowKit Go.Sort Go.Proofs.Ytblnfkhaicjeaaa.Gm
set_option linter.all false

/-- Two results, the first one in a cell. -/
theorem pair_results {fn : Func} (hfn : fn.results = #[.cell 4 149, .tmp 5]) (tmps : Array Value) (W : World) (g : Nat) (t : TypeId) (C : Array Value) (v : Value) (h : Blk W g t C) (hC : (Try.prog.info? 149).map (·.size) = some C.size)
    (h4 : tmps.getD 4 undef = .pointer (some ⟨g, 0, none⟩)) (h5 : tmps.getD 5 undef = v) : (results fn tmps).run Try.prog W = .ok (.tuple #[.agg C, v]) W := by
  have e4 : tmps[4]?.getD undef = .pointer (some ⟨g, 0, none⟩) := by simpa using h4
  have e5 : tmps[5]?.getD undef = v := by simpa using h5
  have hl := run_loadVar_row (P := Try.prog) W g t 149 C (0, 0) _ h Try.underlying149 rfl hC
  simp [results, hfn, e4, e5, asAddr, hl]
theorem zE : Try.zeroCells149 = (cs (zF, 0)).toArray := by kernel_rfl
/-- An entry's cells as a letter. -/
structure EL (C : Array Value) (x : NT) : Prop where
  eq : C.toList = cs x
  size : C.size = 67
  one : C.all (·.oneCell') = true
  info : (Try.prog.info? 149).map (·.size) = some C.size
theorem el_of (x : NT) : ∃ C, EL C x := by
  refine ⟨(cs x).toArray, rfl, by simp [cs_len], Array.all_eq_true_iff_forall_mem.2 (fun v hv => cs_one x v (by simpa using hv)), ?_⟩
  rw [infoE]
  simp [cs_len]
theorem EL.same {C D : Array Value} {x : NT} (h : EL C x) (h' : EL D x) : C = D := Array.ext' (h.eq.trans h'.eq.symm)
def none0 : NT := (zF, 0)
def atX (first : Int) (l : List NT) (n : Int) : NT := if n < first then none0 else l.getD (n - first).toNat none0
def atE (first : Int) (len : Nat) (n : Int) : Int := if n < first then 90 else if n - first ≥ len then 91 else 0

set_option maxRecDepth 100000 in
set_option maxHeartbeats 4000000 in
theorem at_any (w : World) (r : Nat) (room first n : Int) (sv : Value) (l : List NT) (h : At w r room first sv l) (h0 : 0 ≤ first) (hn : n ≤ 9223372036854775807) :
    Calls Try.prog 88 #[.pointer (some ⟨r, 0, none⟩), .int .i64 n] w fun e w' => ∃ C, EL C (atX first l n) ∧ e = .returned (.tuple #[.agg C, .int .i64 (atE first l.length n)]) ∧ Below w.heap.size w w' := by
  obtain ⟨Z, LZ⟩ := el_of none0
  have hZ : Try.zeroCells149 = Z := by rw [zE]; exact Array.ext' LZ.eq.symm
  obtain ⟨W1, hW1⟩ : ∃ W1, W1 = (w.alloc (.cells Z 149)).alloc (.cells Z 149) := ⟨_, rfl⟩
  have hR : Blk W1 w.heap.size 149 Z := by rw [hW1]; exact (Blk.new _ _ _).alloc _
  have hN : Blk W1 (w.heap.size + 1) 149 Z := by
    rw [hW1]
    have := Blk.new (w.alloc (.cells Z 149)) 149 Z
    simpa using this
  have hB : Below w.heap.size w W1 := by rw [hW1]; exact ((Below.refl _ w).alloc (Nat.le_refl _) _).alloc (by simp) _
  have hA := h.below hB
  clear h
  have hp := place_any W1 r room first n sv l hA h0 hn
  obtain ⟨⟨c0, c1, c2⟩, -⟩ := hA.cells
  obtain ⟨a, c, rfl, hlc, hcm, hsv⟩ := hA.slc
  unfold maxLen at hcm
  by_cases b0 : n < first
  · have e1 := Lib.hid (show atX first l n = none0 by simp [atX, b0])
    have e2 := Lib.hid (show atE first l.length n = 90 by simp [atE, b0])
    have e3 : placeB first l.length n = -1 := by simp [placeB, b0]
    rw [e3] at hp
    have hp := Lib.hid hp
    have hzl := LZ.size
    have hzo := LZ.one
    have hzi := LZ.info
    have HL := Lib.hid LZ
    have HB := Lib.hid hB
    clear e3 hA hsv LZ hB
    go_enter Try.func88, Try.ntmps88
    go_upto_region 2 with fail
    rw [← hW1]
    clear hW1 hZ
    go_wp2_with fail
    refine hp.out.mono ?_
    rintro e w2 ⟨rfl, nq, rfl⟩
    have hR2 := hR.drewN nq
    have hN2 := hN.drewN nq
    have HB2 := Lib.hid (below_drewN HB.out nq)
    clear hR hN hp HB
    go_wp2_with (first
      | (refine wpList_load_blk (by rfl) 149 _ (by rfl) (w.heap.size + 1) (by rfl) _ Z _ hN2 Try.underlying149 (by rfl) hzi ?_)
      | (refine wpList_store_blk (by rfl) 149 _ _ (by rfl) w.heap.size Z (by rfl) (by rfl) _ Z hR2 hzi rfl hzo ?_; intro W6 hd6 ht6)
      | fail)
    refine bodyPost_ret (v := .tuple #[.agg Z, .int .i64 90]) (pair_results Try.results88 _ _ w.heap.size _ Z _ hd6 hzi (by rfl) (by rfl)) rfl ⟨Z, by rw [e1.out]; exact HL.out, by rw [e2.out], HB2.out.trans (ht6.below HB2.out.size (fun k hk => by omega))⟩
  · by_cases b1 : (l.length : Int) ≤ n - first
    · have e1 := Lib.hid (show atX first l n = none0 by unfold atX; rw [if_neg b0, List.getD_eq_getElem?_getD, List.getElem?_eq_none (by omega)]; rfl)
      have e2 := Lib.hid (show atE first l.length n = 91 by simp [atE, b0, b1])
      have e3 : placeB first l.length n = -1 := by simp [placeB, b0, b1]
      rw [e3] at hp
      have hp := Lib.hid hp
      have hzl := LZ.size
      have hzo := LZ.one
      have hzi := LZ.info
      have HL := Lib.hid LZ
      have HB := Lib.hid hB
      clear e3 hA hsv LZ hB b1
      go_enter Try.func88, Try.ntmps88
      go_upto_region 2 with fail
      rw [← hW1]
      clear hW1 hZ
      go_wp2_with fail
      refine hp.out.mono ?_
      rintro e w2 ⟨rfl, nq, rfl⟩
      have hR2 := hR.drewN nq
      have hN2 := hN.drewN nq
      have HB2 := Lib.hid (below_drewN HB.out nq)
      clear hR hN hp HB
      go_wp2_with (first
        | (refine wpList_load_blk (by rfl) 149 _ (by rfl) (w.heap.size + 1) (by rfl) _ Z _ hN2 Try.underlying149 (by rfl) hzi ?_)
        | (refine wpList_store_blk (by rfl) 149 _ _ (by rfl) w.heap.size Z (by rfl) (by rfl) _ Z hR2 hzi rfl hzo ?_; intro W6 hd6 ht6)
        | fail)
      refine bodyPost_ret (v := .tuple #[.agg Z, .int .i64 91]) (pair_results Try.results88 _ _ w.heap.size _ Z _ hd6 hzi (by rfl) (by rfl)) rfl ⟨Z, by rw [e1.out]; exact HL.out, by rw [e2.out], HB2.out.trans (ht6.below HB2.out.size (fun k hk => by omega))⟩
    · obtain ⟨i, hi⟩ : ∃ i : Nat, n - first = i := ⟨(n - first).toNat, by omega⟩
      have hil : i < l.length := by omega
      obtain ⟨g, rfl, hgr, hrow⟩ := hsv (by omega)
      have hx : l[i]? = some (l[i]'hil) := List.getElem?_eq_getElem hil
      have hrg := hrow i _ hx
      have e1 := Lib.hid (show atX first l n = l[i]'hil by unfold atX; rw [if_neg b0, List.getD_eq_getElem?_getD, hi, Int.toNat_natCast, hx]; rfl)
      have e2 := Lib.hid (show atE first l.length n = 0 by simp [atE, b0]; omega)
      have e3 : placeB first l.length n = i := by simp [placeB, b0]; omega
      rw [e3] at hp
      generalize l[i]'hil = x at *
      obtain ⟨L, hL⟩ : ∃ L, L = cs x := ⟨_, rfl⟩
      rw [← hL] at hrg
      have hLn : L.length = 67 := by rw [hL]; exact cs_len x
      have hLi : (Try.prog.info? 149).map (·.size) = some L.length := by rw [hLn]; exact infoE
      have HEL := Lib.hid (show EL L.toArray x from ⟨hL, by simp [hLn], Array.all_eq_true_iff_forall_mem.2 (fun v hv => cs_one x v (by rw [← hL]; simpa using hv)), by rw [infoE]; simp [hLn]⟩)
      have hlo := HEL.out.one
      have hli := HEL.out.info
      have hzs : Z.size = L.toArray.size := by rw [LZ.size, HEL.out.size]
      have hp := Lib.hid hp
      have HB := Lib.hid hB
      have i1 : (0 : Int) ≤ (i : Int) := by omega
      have i2 : (i : Int) < (l.length : Int) := by omega
      clear e3 hA hsv LZ hB b1 hrow hx hL hi hil
      go_enter Try.func88, Try.ntmps88
      go_upto_region 2 with fail
      rw [← hW1]
      clear hW1 hZ
      go_wp2_with fail
      refine hp.out.mono ?_
      rintro e w2 ⟨rfl, nq, rfl⟩
      have hR2 := hR.drewN nq
      have hrg2 : (W1.drewN nq).rangeAt g (i * 67) L := hrg
      have HB2 := Lib.hid (below_drewN HB.out nq)
      clear hR hN hp HB hrg
      go_wp2_with (first
        | (refine wpList_load_mid (by rfl) 149 _ (by rfl) g (i * 67) (by rfl) L _ hrg2 Try.underlying149 (by rfl) hLi ?_)
        | (refine wpList_store_blk (by rfl) 149 _ _ (by rfl) w.heap.size L.toArray (by rfl) (by rfl) _ Z hR2 hli hzs hlo ?_; intro W6 hd6 ht6)
        | fail)
      refine bodyPost_ret (v := .tuple #[.agg L.toArray, .int .i64 0]) (pair_results Try.results88 _ _ w.heap.size _ L.toArray _ hd6 hli (by rfl) (by rfl)) rfl ⟨L.toArray, by rw [e1.out]; exact HEL.out, by rw [e2.out], HB2.out.trans (ht6.below HB2.out.size (fun k hk => by omega))⟩
end Go.Proofs.Ytblnfkhaicjeaaa.RingE
