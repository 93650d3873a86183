/-
  backstaylaw24.played: whatever calls are tried, the states stay the document's.
-/
import Derived.Test.YtblnfkhaicjeaaaSavWX
import Derived.Test.YtblnfkhaicjeaaaOpenOps
import Derived.Deep.DeepCutAuto
import Derived.BigRegion
namespace Go.Proofs.Ytblnfkhaicjeaaa.Sav
open Go.RowKit Go.Sort Go.Proofs.Ytblnfkhaicjeaaa.Gm Go.Proofs.Ytblnfkhaicjeaaa.RingE
set_option linter.all false
attribute [local go_sem ↓] exec_bd2

theorem zOp : Try.zeroCells141.size = 69 := by
  have := congrArg List.length zcO
  simpa using this.symm
theorem infoO : (Try.prog.info? 141).map (·.size) = some 69 := by kernel_rfl
/-- An operation's cells as a letter. -/
structure OL (D : Array Value) (o : OpT) : Prop where
  eq : D.toList = oc o
  size : D.size = 69
  one : D.all (·.oneCell') = true
  info : (Try.prog.info? 141).map (·.size) = some D.size
theorem oc_one (o : OpT) : ∀ u ∈ oc o, u.oneCell' = true := fun u hu => by
  unfold oc at hu
  rcases List.mem_append.1 hu with h | h
  · simp at h
    rcases h with rfl | rfl | rfl <;> rfl
  · exact (Array.all_eq_true_iff_forall_mem.1 (stA_one o.2.2.2)) u (by simpa using h)
theorem ol_of (o : OpT) : ∃ D, OL D o :=
  ⟨(oc o).toArray, rfl, by simp [oc_len], Array.all_eq_true_iff_forall_mem.2 (fun v hv => oc_one o v (by simpa using hv)), by rw [infoO]; simp [oc_len]⟩
theorem alloc_storeO (w : World) {D : Array Value} {o : OpT} (L : OL D o) : ∃ W3, (storeCells ⟨w.heap.size, 0, none⟩ D.toList).run Try.prog (w.alloc (.cells Try.zeroCells141 141)) = .ok () W3 ∧ Blk W3 w.heap.size 141 D ∧ Below w.heap.size w W3 ∧ w.heap.size + 1 = W3.heap.size := by
  have hX : Blk (w.alloc (.cells Try.zeroCells141 141)) w.heap.size 141 Try.zeroCells141 := Blk.new _ _ _
  have := run_storeCells_from (P := Try.prog) w.heap.size 141 D.toList 0 _ _ hX (by rw [zOp]; simp [L.size]) (fun v hv => (Array.all_eq_true_iff_forall_mem.1 L.one) v (by simpa using hv))
  refine ⟨_, this, ?_, ?_, by simp⟩
  · have e : (Try.zeroCells141.toList.take 0 ++ D.toList).toArray = D := by simp
    rw [e]
    exact hX.setRow D
  · exact ((Below.refl _ w).alloc (Nat.le_refl _) _).trans ((touch_setRow _ w.heap.size _).below (by simp) (fun k hk => by omega))
theorem ol_get {D : Array Value} {o : OpT} (h : OL D o) : D[0]? = some (.int .i64 o.1) ∧ D[1]? = some (.int .i64 o.2.1) ∧ D[2]? = some (.int .u32 o.2.2.1) := by
  refine ⟨?_, ?_, ?_⟩ <;> (rw [← Array.getElem?_toList, h.eq]; rfl)
theorem ol_state {D : Array Value} {o : OpT} (h : OL D o) {m : Nat} {v : Value} (hv : (stA o.2.2.2).toList[m]? = some v) : D[3 + m]? = some v := by
  rw [← Array.getElem?_toList, h.eq]
  unfold oc
  rw [List.getElem?_append_right (by simp)]
  simpa using hv
theorem set_frame (n s m : Int) : (stA (fr2 n s)).setIfInBounds 0 (.int .i64 m) = stA (fr2 m s) := by kernel_rfl
theorem triple_results {fn : Func} (hfn : fn.results = #[.tmp 4, .cell 5 71, .tmp 6]) (tmps : Array Value) (W : World) (g : Nat) (t : TypeId) (C : Array Value) (u v : Value) (h : Blk W g t C) (hC : (Try.prog.info? 71).map (·.size) = some C.size)
    (h4 : tmps.getD 4 undef = u) (h5 : tmps.getD 5 undef = .pointer (some ⟨g, 0, none⟩)) (h6 : tmps.getD 6 undef = v) : (results fn tmps).run Try.prog W = .ok (.tuple #[u, .agg C, v]) W := by
  have e4 : tmps[4]?.getD undef = u := by simpa using h4
  have e5 : tmps[5]?.getD undef = .pointer (some ⟨g, 0, none⟩) := by simpa using h5
  have e6 : tmps[6]?.getD undef = v := by simpa using h6
  have hl := run_loadVar_row (P := Try.prog) W g t 71 C (0, 0) _ h Try.underlying71 rfl hC
  simp [results, hfn, e4, e5, e6, asAddr, hl]

theorem sts_fin {w : World} {g r : Nat} {sv : Value} {room f f' : Int} {l : List NT} {fs : List F} {a : Option Addr} {c : Nat} {W W' : World} (h : StS w g r sv room f l f' fs a c W) (ht : Touch (fun k => k = w.heap.size) W W') : SA W' g r room f sv l ∧ StRow W' a fs ∧ Below w.heap.size w W' := by
  have hs := h.size
  exact ⟨⟨Blk.touch h.sa.1 ht (fun e => by have := h.gfar; omega), h.sa.2.touch ht (fun k hk e => by have := h.far k hk; omega)⟩, StRow.touch' h.row.1 ht (fun hp b hb e => by have := (h.row.2 hp b hb).1; omega), h.below.trans (ht.below h.below.size (fun k hk => by omega))⟩
def PlayPost (room : Int) (w : World) (e : Ending) (w' : World) : Prop :=
  ((room < 1 ∨ 256 < room) ∧ e = .returned (.tuple #[.pointer none, refV room 0 none 0 0, .bool true]) ∧ Below w.heap.size w w') ∨
  ((1 ≤ room ∧ room ≤ 256) ∧ ∃ g r sv first fs a c, e = .returned (.tuple #[.pointer (some ⟨g, 0, none⟩), refV room first a fs.length c, .bool true]) ∧ SA w' g r room first sv (fs.map tag) ∧ StRow w' a fs ∧ fs.length ≤ c ∧ c ≤ maxLen ∧ InM room 30 first fs ∧ Below w.heap.size w w')

set_option maxRecDepth 100000 in
set_option maxHeartbeats 8000000 in
theorem played_no (w : World) (room : Int) (v : Value) (hr : room < 1 ∨ 256 < room) :
    Calls Try.prog 35 #[.int .i64 room, v] w (PlayPost room w) := by
  obtain ⟨W1, hW1⟩ : ∃ W1, W1 = (w.alloc (.cells #[.int .i64 0, .int .i64 0, .slice none 0 0] 71)).alloc (.cells #[.int .i64 room, .int .i64 0, .slice none 0 0] 71) := ⟨_, rfl⟩
  have hX : Blk W1 w.heap.size 71 #[.int .i64 0, .int .i64 0, .slice none 0 0] := by rw [hW1]; exact (Blk.new _ _ _).alloc _
  have hY : Blk W1 (w.heap.size + 1) 71 #[.int .i64 room, .int .i64 0, .slice none 0 0] := by
    rw [hW1]
    have := Blk.new (w.alloc (.cells #[.int .i64 0, .int .i64 0, .slice none 0 0] 71)) 71 #[.int .i64 room, .int .i64 0, .slice none 0 0]
    simpa only [World.size_alloc] using this
  have hB : Below w.heap.size w W1 := by rw [hW1]; exact ((Below.refl _ w).alloc (Nat.le_refl _) _).alloc (by simp) _
  have p := Lib.hid (fun W => new_no room W hr)
  have y0 : W1.cell? ⟨w.heap.size + 1, 0, none⟩ = some (.int .i64 room) := hY.cell 0
  have y1 : W1.cell? ⟨w.heap.size + 1, 1, none⟩ = some (.int .i64 0) := hY.cell 1
  have y2 : W1.cell? ⟨w.heap.size + 1, 2, none⟩ = some (.slice none 0 0) := hY.cell 2
  have x0 := hX.frozen 0
  have x1 := hX.frozen 1
  have x2 := hX.frozen 2
  have z0 := hX.cell 0
  have z1 := hX.cell 1
  have z2 := hX.cell 2
  have HX := Lib.hid hX
  have HB := Lib.hid hB
  clear hX hY hB
  go_enter Try.func35, Try.ntmps35
  go_upto_region 2 with fail
  rw [← hW1]
  clear hW1
  go_wp2_with fail
  refine (p.out _).mono ?_
  rintro e w2 ⟨rfl, rfl⟩
  have hd : (decide (room < 1) || decide (256 < room)) = true := by simpa using hr
  by_cases h1 : room < 1
  · go_upto_region 4 with fail
    go_region
    go_wp2_with fail
    exact bodyPost_ret (triple_results rfl _ _ w.heap.size _ _ _ _ (((HX.out.set_ 0 _).set_ 1 _).set_ 2 _) (by rfl) (by rfl) (by rfl) (by rfl)) rfl (.inl ⟨hr, rfl, below_drewN (((HB.out.setCell (p := ⟨w.heap.size, 0, none⟩) (Nat.le_refl _) _).setCell (p := ⟨w.heap.size, 1, none⟩) (Nat.le_refl _) _).setCell (p := ⟨w.heap.size, 2, none⟩) (Nat.le_refl _) _) 1⟩)
  · have h2 : 256 < room := by omega
    go_upto_region 4 with fail
    go_region
    go_wp2_with fail
    exact bodyPost_ret (triple_results rfl _ _ w.heap.size _ _ _ _ (((HX.out.set_ 0 _).set_ 1 _).set_ 2 _) (by rfl) (by rfl) (by rfl) (by rfl)) rfl (.inl ⟨hr, rfl, below_drewN (((HB.out.setCell (p := ⟨w.heap.size, 0, none⟩) (Nat.le_refl _) _).setCell (p := ⟨w.heap.size, 1, none⟩) (Nat.le_refl _) _).setCell (p := ⟨w.heap.size, 2, none⟩) (Nat.le_refl _) _) 1⟩)

set_option maxRecDepth 100000 in
set_option maxHeartbeats 8000000 in
theorem played_in (w : World) (room : Int) (oa : Option Addr) (os : List OpT) (ocap : Nat) (h : OpRow w oa os) (hc : os.length ≤ ocap) (hm : ocap ≤ maxLen) (hr1 : 1 ≤ room) (hr2 : room ≤ 256) :
    Calls Try.prog 35 #[.int .i64 room, .slice oa os.length ocap] w (PlayPost room w) := by
  obtain ⟨W1, hW1⟩ : ∃ W1, W1 = (w.alloc (.cells #[.int .i64 0, .int .i64 0, .slice none 0 0] 71)).alloc (.cells #[.int .i64 room, .int .i64 0, .slice none 0 0] 71) := ⟨_, rfl⟩
  have hX : Blk W1 w.heap.size 71 #[.int .i64 0, .int .i64 0, .slice none 0 0] := by rw [hW1]; exact (Blk.new _ _ _).alloc _
  have hY : Blk W1 (w.heap.size + 1) 71 #[.int .i64 room, .int .i64 0, .slice none 0 0] := by
    rw [hW1]
    have := Blk.new (w.alloc (.cells #[.int .i64 0, .int .i64 0, .slice none 0 0] 71)) 71 #[.int .i64 room, .int .i64 0, .slice none 0 0]
    simpa only [World.size_alloc] using this
  have hB : Below w.heap.size w W1 := by rw [hW1]; exact ((Below.refl _ w).alloc (Nat.le_refl _) _).alloc (by simp) _
  have hz : W1.heap.size = w.heap.size + 2 := by rw [hW1]; simp
  have p := Lib.hid (new_ok room W1 hr1 hr2)
  have HX := Lib.hid hX
  have HY := Lib.hid hY
  have HB := Lib.hid hB
  have HZ := Lib.hid hz
  have HR := Lib.hid h
  clear hX hY hB hz h
  go_enter Try.func35, Try.ntmps35
  go_upto_region 2 with fail
  rw [← hW1]
  clear hW1
  go_wp2_with fail
  refine p.out.mono ?_
  rintro e w2 ⟨rfl, hS, hb2⟩
  obtain ⟨g, hg⟩ : ∃ g, g = W1.heap.size + 1 := ⟨_, rfl⟩
  obtain ⟨r, hr⟩ : ∃ r, r = W1.heap.size := ⟨_, rfl⟩
  rw [← hg] at hS ⊢
  rw [← hr] at hS
  have hSt : StS w g r (.slice none 0 0) room 0 ([].map tag) 0 [] none 0 w2 := ⟨hS, HX.out.below hb2 (by rw [HZ.out]; omega), HY.out.below hb2 (by rw [HZ.out]; omega), ⟨st_nil none, fun hp => by simp at hp⟩, HB.out.trans (hb2.mono (by rw [HZ.out]; omega)), fun b hb => hb.elim (fun e => by rw [e, hr, HZ.out]; omega) (fun e => by simp [Value.ownBlock] at e), by rw [hg, HZ.out]; omega⟩
  have hIn : InM room 0 0 [] := ⟨by omega, by simp; omega, by simp, fun f hf => by simp at hf⟩
  have HSt := Lib.hid hSt
  have HIn := Lib.hid hIn
  clear hS hb2 hg hr p hSt hIn HX HY HB HZ
  go_wp2_with fail
  go_loopw [10] (fun i wr => ∃ k : Nat, k ≤ os.length ∧ k ≤ 30 ∧ i = .int .i64 (k : Int) ∧ ∃ sv first fs a c, StS w g r sv room first (fs.map tag) first fs a c wr ∧ InM room k first fs ∧ fs.length ≤ c ∧ c ≤ maxLen) (fun i _ => ((os.length : Int) - intOf i).toNat)
  case atStart => exact ⟨0, Nat.zero_le _, by omega, rfl, _, _, _, _, _, HSt.out, HIn.out, by simp, by simp [maxLen]⟩
  case round =>
    obtain ⟨k, hk, hk30, rfl, sv, first, fs, a, c, hSt, hIn, hfc, hcm⟩ := hrel
    have hSO := hSt.size
    have HS := Lib.hid hSt
    have HI := Lib.hid hIn
    have HOR := Lib.hid (HR.out.below hSt.below)
    clear hSt hIn HSt HIn
    by_cases hlt : k < os.length ∧ k < 30
    · obtain ⟨h1, h2⟩ := hlt
      have h1' : (k : Int) < (os.length : Int) := by omega
      have h2' : (k : Int) < 30 := by omega
      have h0' : (0 : Int) ≤ (k : Int) := by omega
      obtain ⟨b0, off0, rfl, hb0, hrow⟩ := HOR.out.2 (by omega)
      have hrg := hrow k os[k] (List.getElem?_eq_getElem h1)
      have hwo := HOR.out.1 os[k] (List.getElem_mem h1)
      generalize os[k] = o at hrg hwo
      obtain ⟨D, LD⟩ := ol_of o
      rw [← LD.eq] at hrg
      have hdl : (Try.prog.info? 141).map (·.size) = some D.toList.length := by rw [Array.length_toList]; exact LD.info
      obtain ⟨W3, hrun3, hO3, hb3, hz3⟩ := alloc_storeO wr LD
      obtain ⟨g0, g1, g2⟩ := ol_get LD
      obtain ⟨C, LC⟩ := let_of (fr2 o.2.1 o.2.2.1)
      obtain ⟨W4, hrun4, hX4', hb4, hz4⟩ := alloc_store W3 LC
      have hX4 := LC.blk hX4'
      have hbd : ∀ W, bd2 Try.prog (.int .i64 o.2.1) (.int .u32 o.2.2.1) W = .ok (.value (.agg C)) W := fun W => bd2_at W LC
      have o1 : W3.cell? ⟨wr.heap.size, 1, none⟩ = some (.int .i64 o.2.1) := (hO3.cell 1).trans g1
      have o2 : W3.cell? ⟨wr.heap.size, 2, none⟩ = some (.int .u32 o.2.2.1) := (hO3.cell 2).trans g2
      have o0 : W4.cell? ⟨wr.heap.size, 0, none⟩ = some (.int .i64 o.1) := ((hO3.below hb4 hO3.lt).cell 0).trans g0
      have hds := LD.size
      have hcs := LC.size
      have hz69 := zOp
      have hz66' := hz66
      have HLD := Lib.hid LD
      have HLC := Lib.hid LC
      have HO3 := Lib.hid hO3
      have HX4 := Lib.hid hX4
      have HB3 := Lib.hid hb3
      have HB4 := Lib.hid hb4
      have HZ3 := Lib.hid hz3
      have HZ4 := Lib.hid hz4
      clear hrow LD LC hO3 hX4 hX4' hb3 hb4 hz3 hz4 g0 g1 g2
      go_upto_block 2 with (first
        | (refine wpList_load_mid (by rfl) 141 _ (by rfl) b0 (off0 + k * 69) (by rfl) D.toList _ hrg Try.underlying141 (by rfl) hdl ?_)
        | fail)
      clear hrun3 hrun4 hbd o1 o2
      have HSW := Lib.hid (HS.out.bel HB3.out)
      have hbw4 : Below wr.heap.size wr W4 := HB3.out.trans (HB4.out.mono HB3.out.size)
      have HS4 := Lib.hid (HS.out.bel hbw4)
      have HBW := Lib.hid hbw4
      have HO4 := Lib.hid (HO3.out.below HB4.out HO3.out.lt)
      obtain ⟨xb, hxb⟩ : ∃ xb, W3.heap.size = xb := ⟨_, rfl⟩
      obtain ⟨ob, hob⟩ : ∃ ob, wr.heap.size = ob := ⟨_, rfl⟩
      have hz3 := HZ3.out
      have hz4 := HZ4.out
      rw [hxb, hob] at hz3
      rw [hxb] at hz4
      rw [hxb] at HX4
      rw [hob] at HO4 HBW
      simp only [hxb, hob]
      have hso2 : w.heap.size + 2 ≤ ob := by omega
      rw [hob] at o0
      have HOB := Lib.hid hob
      clear hbw4 HB3 HB4 HZ3 HZ4 HO3 HSW hxb hob hrg hds hdl
      go_cut [] (fun wx => (o.1 = 2 ∧ ∃ sv' first' fs' a' c', StS w g r sv' room first' (fs'.map tag) first' fs' a' c' wx ∧ InM room (k + 1) first' fs' ∧ fs'.length ≤ c' ∧ c' ≤ maxLen ∧ wx.cell? ⟨ob, 0, none⟩ = some (.int .i64 o.1)) ∨
        (o.1 ≠ 2 ∧ ∃ C' f, Let C' f ∧ Wf f ∧ Blk wx xb 33 C' ∧ Below ob wr wx ∧ wx.cell? ⟨ob, 0, none⟩ = some (.int .i64 o.1)))
      case first =>
        have t0 : W4.cell? ⟨w.heap.size + 1, 0, none⟩ = some (.int .i64 room) := HS4.out.box.cell 0
        have t1 : W4.cell? ⟨w.heap.size + 1, 1, none⟩ = some (.int .i64 first) := HS4.out.box.cell 1
        have t2 : W4.cell? ⟨w.heap.size + 1, 2, none⟩ = some (.slice a fs.length c) := HS4.out.box.cell 2
        have hpos := HI.out.pos
        have htop := HI.out.top
        have hroo := HI.out.room_
        by_cases k0 : o.1 = 0
        · have hk0 := Lib.hid k0
          have d0 : (o.1 == 0) = true := by simpa using k0
          clear k0
          go_wp2_with fail
          go_meet
          exact .inr ⟨by rw [hk0.out]; decide, C, _, HLC.out, wf_fr2 _ _ hwo.2.1 hwo.2.2.1, HX4.out, HBW.out, o0⟩
        · by_cases k1 : o.1 = 1
          · have hk1 := Lib.hid k1
            have d0 : (o.1 == 0) = false := by simpa using k0
            have d1 : (o.1 == 1) = true := by simpa using k1
            have pN := Lib.hid (rnext_any W4 room first a fs.length c hpos (by omega))
            unfold refV at pN
            clear k0 k1
            go_wp2_with fail
            refine pN.out.mono ?_
            rintro e W5 ⟨rfl, hb5⟩
            have HX5 := Lib.hid (HX4.out.below hb5 (by omega))
            have x0 : W5.cell? ⟨xb, 0, none⟩ = C[0]? := HX5.out.cell 0
            have x00 : C[0]? = some (.int .i64 o.2.1) := by rw [HLC.out.eq, stA_get _ (by omega), cv_int _ (by omega) (by omega)]; simp [fr2]
            rw [x00] at x0
            have x0f := HX5.out.frozen 0
            have HB5 := Lib.hid (HBW.out.trans (hb5.mono (by omega)))
            have o05 := (hb5.cell (p := ⟨ob, 0, none⟩) (show ob < W4.heap.size by omega)).trans o0
            clear hb5
            go_wp2_with fail
            go_meet
            have hse : C.setIfInBounds 0 (.int .i64 (first + (fs.length : Int))) = stA (fr2 (first + (fs.length : Int)) o.2.2.1) := by rw [HLC.out.eq]; exact set_frame _ _ _
            obtain ⟨C2, LC2⟩ := let_of (fr2 (first + (fs.length : Int)) o.2.2.1)
            have hX6 := HX5.out.set_ 0 (.int .i64 (first + (fs.length : Int)))
            rw [hse, ← LC2.eq] at hX6
            exact .inr ⟨by rw [hk1.out]; decide, C2, _, LC2, wf_fr2 _ _ (by omega) hwo.2.2.1, hX6, HB5.out.setCell (p := ⟨xb, 0, none⟩) (by show ob ≤ xb; omega) _, (World.cell?_setCell_other _ _ _ _ (by simp <;> omega)).trans o05⟩
          · by_cases k2 : o.1 = 2
            · have hk2 := Lib.hid k2
              have d0 : (o.1 == 0) = false := by simpa using k0
              have d1 : (o.1 == 1) = false := by simpa using k1
              have d2 : (o.1 == 2) = true := by simpa using k2
              have o1 : W4.cell? ⟨ob, 1, none⟩ = some (.int .i64 o.2.1) := (HO4.out.cell 1).trans (ol_get HLD.out).2.1
              have hll : (fs.map tag).length = fs.length := by simp
              have pD := Lib.hid (sdrop_any W4 g r room first o.2.1 sv (fs.map tag) HS4.out.sa hpos (by rw [hll]; omega) (by rw [hll]; omega) hwo.2.1.2)
              have pR := Lib.hid (fun W hW => rfdrop_any W room first o.2.1 a fs c hW hfc hcm hpos (by omega))
              unfold refV at pR
              have HLL := Lib.hid hll
              clear k0 k1 k2 hll
              go_wp2_with fail
              refine pD.out.mono ?_
              rintro e W5 ⟨rfl, ht⟩
              obtain ⟨sv5, hS5, hF5, hT5⟩ := HS4.out.turn ht
              have HS5 := Lib.hid hS5
              have hnf : ¬ fp r sv ob := fun hk => by have := HS.out.sa.2.lt _ hk; have := HOB.out; omega
              have o15 : W5.cell? ⟨ob, 1, none⟩ = some (.int .i64 o.2.1) := (hT5.cell (p := ⟨ob, 1, none⟩) (by show ob < W4.heap.size; omega) hnf).trans o1
              have o05 : W5.cell? ⟨ob, 0, none⟩ = some (.int .i64 o.1) := (hT5.cell (p := ⟨ob, 0, none⟩) (by show ob < W4.heap.size; omega) hnf).trans o0
              have u0 : W5.cell? ⟨w.heap.size + 1, 0, none⟩ = some (.int .i64 room) := hS5.box.cell 0
              have u1 : W5.cell? ⟨w.heap.size + 1, 1, none⟩ = some (.int .i64 first) := hS5.box.cell 1
              have u2 : W5.cell? ⟨w.heap.size + 1, 2, none⟩ = some (.slice a fs.length c) := hS5.box.cell 2
              have hz5 := hT5.size
              clear ht hF5 hT5 hS5 o0 o1 t0 t1 t2
              go_wp2_with fail
              refine (pR.out W5 HS5.out.row.1).mono ?_
              rintro e W6 ⟨a2, c2, rfl, hr6, hc6, hm6, hab6, hb6⟩
              have hS6 := HS5.out.bel hb6
              have v0 := hS6.box.frozen 0
              have v1 := hS6.box.frozen 1
              have v2 := hS6.box.frozen 2
              have v3 := hS6.box.cell 0
              have v4 := hS6.box.cell 1
              have v5 := hS6.box.cell 2
              have HS6 := Lib.hid hS6
              have HR6 := Lib.hid (HS5.out.row.dropped (W' := W6) hr6 hab6)
              have o06 := (hb6.cell (p := ⟨ob, 0, none⟩) (show ob < W5.heap.size by omega)).trans o05
              have HC6 := Lib.hid hc6
              have HM6 := Lib.hid hm6
              clear hS6 hr6 hab6 hb6 u0 u1 u2 o15 o05 hc6 hm6
              go_wp2_with fail
              go_meet
              have hdk : (fs.drop (refDK first fs.length o.2.1)).length = fs.length - refDK first fs.length o.2.1 := List.length_drop
              have hst := HS6.out.store (f2 := first + (refDK first fs.length o.2.1 : Int)) (fs2 := fs.drop (refDK first fs.length o.2.1)) (a2 := a2) (c2 := c2) HR6.out
                (by rw [hdk]; exact ((HS6.out.box.set_ 0 (.int .i64 room)).set_ 1 (.int .i64 (first + (refDK first fs.length o.2.1 : Int)))).set_ 2 (.slice a2 (fs.length - refDK first fs.length o.2.1) c2))
                ((((Touch.refl (fun k => k = w.heap.size + 1) W6).setCell (p := ⟨w.heap.size + 1, 0, none⟩) (.inl rfl) _).setCell (p := ⟨w.heap.size + 1, 1, none⟩) (.inl rfl) _).setCell (p := ⟨w.heap.size + 1, 2, none⟩) (.inl rfl) _)
              rw [drop_first, drop_list, HLL.out, ← List.map_drop] at hst
              refine .inl ⟨hk2.out, sv5, _, _, a2, c2, hst, HI.out.drop _, by rw [hdk]; exact HC6.out, HM6.out, ?_⟩
              have hn1 : ¬ ob = w.heap.size + 1 := by omega
              exact (World.cell?_setCell_other _ _ _ _ (by simp <;> omega)).trans ((World.cell?_setCell_other _ _ _ _ (by simp <;> omega)).trans ((World.cell?_setCell_other _ _ _ _ (by simp <;> omega)).trans o06))
            · by_cases k3 : o.1 = 3
              · have hk3 := Lib.hid k3
                have d0 : (o.1 == 0) = false := by simpa using k0
                have d1 : (o.1 == 1) = false := by simpa using k1
                have d2 : (o.1 == 2) = false := by simpa using k2
                have d3 : (o.1 == 3) = true := by simpa using k3
                obtain ⟨C3, LC3⟩ := let_of o.2.2.2
                have hrg3 : W4.rangeAt ob 3 C3.toList := fun m v hv => (HO4.out.cell (3 + m)).trans (ol_state HLD.out (by rw [← LC3.eq]; exact hv))
                have hdl3 : (Try.prog.info? 33).map (·.size) = some C3.toList.length := by rw [Array.length_toList]; exact LC3.info
                have hci3 := LC3.info
                have hco3 := LC3.one
                have hcz3 : C.size = C3.size := by rw [hcs, LC3.size]
                have HLC3 := Lib.hid LC3
                have hx4 := HX4.out
                clear k0 k1 k2 k3 LC3 t0 t1 t2
                go_wp2_with (first
                  | (refine wpList_load_mid (by rfl) 33 _ (by rfl) ob 3 (by rfl) C3.toList _ hrg3 Try.underlying33 (by rfl) hdl3 ?_)
                  | (refine wpList_store_blk (by rfl) 33 _ _ (by rfl) xb C3 (by rfl) (by rfl) _ C hx4 hci3 hcz3 hco3 ?_; intro W6 hd6 ht6)
                  | fail)
                go_meet
                exact .inr ⟨by rw [hk3.out]; decide, C3, _, HLC3.out, hwo.2.2.2, hd6, HBW.out.trans (ht6.below (by omega) (fun k hk => by omega)), (ht6.cell (p := ⟨ob, 0, none⟩) (by show ob < W4.heap.size; omega) (by show ¬ ob = xb; omega)).trans o0⟩
              · clear t0 t1 t2
                have d0 : (o.1 == 0) = false := by simpa using k0
                have d1 : (o.1 == 1) = false := by simpa using k1
                have d2 : (o.1 == 2) = false := by simpa using k2
                have d3 : (o.1 == 3) = false := by simpa using k3
                clear k0 k1 k2 k3
                go_wp2_with fail
                exact ⟨⟨k + 1, by omega, by omega, by simp, _, _, _, _, _, HS4.out, HI.out.next, hfc, hcm⟩, by simp [intOf]; omega⟩
      case rest =>
        rcases hcut with ⟨hk2, sv1, first1, fs1, a1, c1, hS1, hI1, hc1, hm1, o0'⟩ | ⟨hk2, C1, f1, LC1, hw1, hX1, hB1, o0'⟩
        · have d2 : (o.1 != 2) = false := by simpa using hk2
          have hp1 := hI1.pos
          have ht1 := hI1.top
          have pM := Lib.hid (same_any wc g r room first1 sv1 a1 fs1 c1 hS1.sa hS1.row.1 hc1 hm1 hp1 (by omega))
          unfold refV at pM
          have v3 := hS1.box.cell 0
          have v4 := hS1.box.cell 1
          have v5 := hS1.box.cell 2
          have HS1 := Lib.hid hS1
          have HI1 := Lib.hid hI1
          clear hS1 hI1 hk2
          go_wp2_with fail
          refine pM.out.mono ?_
          rintro e W5 ⟨rfl, hb5⟩
          have HS5 := Lib.hid (HS1.out.bel hb5)
          clear hb5 v3 v4 v5
          go_wp2_with fail
          exact ⟨⟨k + 1, by omega, by omega, by simp, _, _, _, _, _, HS5.out, HI1.out, hc1, hm1⟩, by simp [intOf]; omega⟩
        · have d2 : (o.1 != 2) = true := by simpa using hk2
          have hpos := HI.out.pos
          have htop := HI.out.top
          have hroo := HI.out.room_
          have hSc := HS.out.bel (by rw [HOB.out]; exact hB1 : Below wr.heap.size wr wc)
          have HSc := Lib.hid hSc
          have HI2 := Lib.hid (HI.out.save hr1 f1 hw1)
          obtain ⟨hq1, hq2⟩ := HI.out.save_eq hr1 f1
          have hq3 := (e_eq first fs (f1 0)).1
          have hll : (fs.map tag).length = fs.length := by simp
          have pSv := rfsave_any wc room first a fs c C1 f1 LC1 hw1 hSc.row.1 hfc hcm hpos (by omega) (by omega) (by omega)
          have pSa := fun W (hW : SA W g r room first sv (fs.map tag)) => save_any W g r room first sv (fs.map tag) C1 f1 LC1 hw1 hW hpos (by rw [hll]; omega) (by rw [hll]; omega) (by omega)
          rw [hq1, hq2, hq3] at pSa
          obtain ⟨F2, hF2⟩ : ∃ x, x = rsF room first fs f1 := ⟨_, rfl⟩
          obtain ⟨L2, hL2⟩ : ∃ x, x = rsL room first fs f1 := ⟨_, rfl⟩
          obtain ⟨E2, hE2⟩ : ∃ x, x = rsE first fs.length (f1 0) := ⟨_, rfl⟩
          rw [← hF2, ← hL2, ← hE2] at pSv
          rw [← hF2, ← hL2, ← hE2] at pSa
          rw [← hF2, ← hL2] at HI2
          unfold refV at pSv
          have PSv := Lib.hid pSv
          have PSa := Lib.hid pSa
          have hEE : (E2 != E2) = false := by simp
          have hci1 := LC1.info
          have v3 := hSc.box.cell 0
          have v4 := hSc.box.cell 1
          have v5 := hSc.box.cell 2
          have hxlt := hX1.lt
          have hzc := hSc.size
          have HX1 := Lib.hid hX1
          have hfpl := Lib.hid (show ∀ j, fp r sv j → j < wr.heap.size from HS.out.sa.2.lt)
          have hob1 := HOB.out
          have hbz := hB1.size
          clear hk2 pSv pSa hq1 hq2 hq3 hF2 hL2 hE2 hSc LC1 hB1
          go_wp2_with (first
            | (refine wpList_load_blk (by rfl) 33 _ (by rfl) xb (by rfl) _ C1 _ hX1 Try.underlying33 (by rfl) hci1 ?_)
            | fail)
          refine PSv.out.mono ?_
          rintro e W5 ⟨a2, c2, rfl, hr5, hl5, hm5, hf5, hb5⟩
          have hz5 := hb5.size
          have HR5 := Lib.hid (HSc.out.row.saved hr5 hf5 HSc.out.size (fun j hj => by have := hfpl.out j hj; omega))
          obtain ⟨W6, hW6⟩ : ∃ W6, W6 = W5.alloc (.cells #[.int .i64 room, .int .i64 F2, .slice a2 L2.length c2] 71) := ⟨_, rfl⟩
          have hb6 : Below W5.heap.size W5 W6 := by rw [hW6]; exact (Below.refl _ W5).alloc (Nat.le_refl _) _
          have hz6 : W6.heap.size = W5.heap.size + 1 := by rw [hW6]; simp
          have hN6 : Blk W6 W5.heap.size 71 #[.int .i64 room, .int .i64 F2, .slice a2 L2.length c2] := by rw [hW6]; exact Blk.new _ _ _
          have hX6 := (HX1.out.below hb5 hxlt).below hb6 (by omega)
          have HS6 := Lib.hid ((HSc.out.bel hb5).bel hb6)
          have HR6 := Lib.hid (HR5.out.bel hb6)
          have o06 : W6.cell? ⟨ob, 0, none⟩ = some (.int .i64 o.1) := (hb6.cell (p := ⟨ob, 0, none⟩) (show ob < W5.heap.size by omega)).trans ((hb5.cell (p := ⟨ob, 0, none⟩) (show ob < wc.heap.size by omega)).trans o0')
          obtain ⟨nb, hnb⟩ : ∃ nb, nb = W5.heap.size := ⟨_, rfl⟩
          have HL5 := Lib.hid hl5
          have HM5 := Lib.hid hm5
          have HNB := Lib.hid hnb
          have hnl : nb < W6.heap.size := by omega
          have hnfp : Hid (¬ fp r sv nb) := Lib.hid (fun hk => by have := hfpl.out nb hk; omega)
          rw [← hnb] at hN6
          have HN6 := Lib.hid hN6
          clear hr5 hf5 hb5 hb6 hN6 hl5 hm5
          go_upto_region 23 with fail
          rw [← hW6, ← hnb]
          clear hW6 hnb hX1
          go_wp2_with (first
            | (refine wpList_load_blk (by rfl) 33 _ (by rfl) xb (by rfl) _ C1 _ hX6 Try.underlying33 (by rfl) hci1 ?_)
            | fail)
          refine (PSa.out W6 HS6.out.sa).mono ?_
          rintro e W7 ⟨rfl, ht⟩
          obtain ⟨sv7, hS7, hF7, hT7⟩ := HS6.out.turn ht
          have HS7 := Lib.hid hS7
          have HR7 := Lib.hid (HR6.out.turn hT7 hF7)
          have hN7 := HN6.out.touch hT7 hnfp.out
          have n0 : W7.cell? ⟨nb, 0, none⟩ = some (.int .i64 room) := hN7.cell 0
          have n1 : W7.cell? ⟨nb, 1, none⟩ = some (.int .i64 F2) := hN7.cell 1
          have n2 : W7.cell? ⟨nb, 2, none⟩ = some (.slice a2 L2.length c2) := hN7.cell 2
          have t0 := hS7.box.frozen 0
          have t1 := hS7.box.frozen 1
          have t2 := hS7.box.frozen 2
          have t3 := hS7.box.cell 0
          have t4 := hS7.box.cell 1
          have t5 := hS7.box.cell 2
          clear ht hF7 hT7 hN7 hX6 hS7 v3 v4 v5
          go_upto_region 26 with fail
          obtain ⟨W8, hW8⟩ : ∃ W8, W8 = ((W7.setCell ⟨w.heap.size + 1, 0, none⟩ (.int .i64 room)).setCell ⟨w.heap.size + 1, 1, none⟩ (.int .i64 F2)).setCell ⟨w.heap.size + 1, 2, none⟩ (.slice a2 L2.length c2) := ⟨_, rfl⟩
          rw [← hW8]
          have hS8 := HS7.out.store (f2 := F2) (fs2 := L2) (a2 := a2) (c2 := c2) (W' := W8) HR7.out
            (by rw [hW8]; exact ((HS7.out.box.set_ 0 (.int .i64 room)).set_ 1 (.int .i64 F2)).set_ 2 (.slice a2 L2.length c2))
            (by rw [hW8]; exact (((Touch.refl (fun k => k = w.heap.size + 1) W7).setCell (p := ⟨w.heap.size + 1, 0, none⟩) (.inl rfl) _).setCell (p := ⟨w.heap.size + 1, 1, none⟩) (.inl rfl) _).setCell (p := ⟨w.heap.size + 1, 2, none⟩) (.inl rfl) _)
          have hp2 := HI2.out.pos
          have hq2 := HI2.out.top
          have pM := Lib.hid (same_any W8 g r room F2 sv7 a2 L2 c2 hS8.sa hS8.row.1 HL5.out HM5.out hp2 (by omega))
          unfold refV at pM
          have v3 := hS8.box.cell 0
          have v4 := hS8.box.cell 1
          have v5 := hS8.box.cell 2
          have HS8 := Lib.hid hS8
          clear hS8 hW8 t0 t1 t2 t3 t4 t5 n0 n1 n2
          go_wp2_with fail
          refine pM.out.mono ?_
          rintro e W9 ⟨rfl, hb9⟩
          have HS9 := Lib.hid (HS8.out.bel hb9)
          clear hb9 v3 v4 v5
          go_wp2_with fail
          exact ⟨⟨k + 1, by omega, by omega, by simp, _, _, _, _, _, HS9.out, HI2.out, HL5.out, HM5.out⟩, by simp [intOf]; omega⟩
    · -- LOOP END
      have t0 : wr.cell? ⟨w.heap.size + 1, 0, none⟩ = some (.int .i64 room) := HS.out.box.cell 0
      have t1 : wr.cell? ⟨w.heap.size + 1, 1, none⟩ = some (.int .i64 first) := HS.out.box.cell 1
      have t2 : wr.cell? ⟨w.heap.size + 1, 2, none⟩ = some (.slice a fs.length c) := HS.out.box.cell 2
      have z0 := HS.out.out.frozen 0
      have z1 := HS.out.out.frozen 1
      have z2 := HS.out.out.frozen 2
      have z3 := HS.out.out.cell 0
      have z4 := HS.out.out.cell 1
      have z5 := HS.out.out.cell 2
      have hI30 := Lib.hid (show InM room 30 first fs from ⟨HI.out.pos, HI.out.room_, by have := HI.out.top; omega, HI.out.wf⟩)
      by_cases c1 : k < os.length
      · have c2 : ¬ (k : Int) < 30 := by omega
        have c1' : (k : Int) < (os.length : Int) := by omega
        clear hlt
        go_upto_region 28 with fail
        go_region
        go_wp2_with fail
        have hfin := sts_fin HS.out (W' := (((wr.setCell ⟨w.heap.size, 0, none⟩ (.int .i64 room)).setCell ⟨w.heap.size, 1, none⟩ (.int .i64 first)).setCell ⟨w.heap.size, 2, none⟩ (.slice a fs.length c)).drew) ((((Touch.refl (fun k => k = w.heap.size) wr).setCell (p := ⟨w.heap.size, 0, none⟩) (.inl rfl) _).setCell (p := ⟨w.heap.size, 1, none⟩) (.inl rfl) _).setCell (p := ⟨w.heap.size, 2, none⟩) (.inl rfl) _).drew
        exact bodyPost_ret (triple_results rfl _ _ w.heap.size _ _ _ _ (((HS.out.out.set_ 0 _).set_ 1 _).set_ 2 _) (by rfl) (by rfl) (by rfl) (by rfl)) rfl (.inr ⟨⟨hr1, hr2⟩, g, r, sv, first, fs, a, c, rfl, hfin.1, hfin.2.1, hfc, hcm, hI30.out, hfin.2.2⟩)
      · have c1' : ¬ (k : Int) < (os.length : Int) := by omega
        clear hlt
        go_upto_region 28 with fail
        go_region
        go_wp2_with fail
        have hfin := sts_fin HS.out (W' := (((wr.setCell ⟨w.heap.size, 0, none⟩ (.int .i64 room)).setCell ⟨w.heap.size, 1, none⟩ (.int .i64 first)).setCell ⟨w.heap.size, 2, none⟩ (.slice a fs.length c)).drew) ((((Touch.refl (fun k => k = w.heap.size) wr).setCell (p := ⟨w.heap.size, 0, none⟩) (.inl rfl) _).setCell (p := ⟨w.heap.size, 1, none⟩) (.inl rfl) _).setCell (p := ⟨w.heap.size, 2, none⟩) (.inl rfl) _).drew
        exact bodyPost_ret (triple_results rfl _ _ w.heap.size _ _ _ _ (((HS.out.out.set_ 0 _).set_ 1 _).set_ 2 _) (by rfl) (by rfl) (by rfl) (by rfl)) rfl (.inr ⟨⟨hr1, hr2⟩, g, r, sv, first, fs, a, c, rfl, hfin.1, hfin.2.1, hfc, hcm, hI30.out, hfin.2.2⟩)

theorem played_any (w : World) (room : Int) (oa : Option Addr) (os : List OpT) (ocap : Nat) (h : OpRow w oa os) (hc : os.length ≤ ocap) (hm : ocap ≤ maxLen) :
    Calls Try.prog 35 #[.int .i64 room, .slice oa os.length ocap] w (PlayPost room w) := by
  by_cases h1 : room < 1
  · exact played_no w room _ (.inl h1)
  · by_cases h2 : 256 < room
    · exact played_no w room _ (.inr h2)
    · exact played_in w room oa os ocap h hc hm (by omega) (by omega)

end Go.Proofs.Ytblnfkhaicjeaaa.Sav
