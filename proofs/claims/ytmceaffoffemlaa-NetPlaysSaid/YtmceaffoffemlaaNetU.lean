/-
  The document's net: Tick; all of any numbers. Conditions: the lists lie in memory; counts below a million.
-/
import Derived.Test.YtmceaffoffemlaaNetT
namespace Go.Proofs.Ytmceaffoffemlaa.Netw
open Go.RowKit
set_option linter.all false

def mt (m : MN) (j : Nat) : MN := { m with L := fun k => if k < j then older (m.L k) else m.L k }
theorem mt_zero (m : MN) : mt m 0 = m := by unfold mt; simp
theorem mt_put (m : MN) (j : Nat) : (mt m j).put j (older (m.L j)) = mt m (j + 1) := by
  unfold mt MN.put
  simp only [MN.mk.injEq, and_true]
  funext k
  unfold upd
  by_cases h : k = j
  · rw [if_pos h, if_pos (by omega), h]
  · rw [if_neg h]
    show (if k < j then older (m.L k) else m.L k) = _
    by_cases h2 : k < j
    · rw [if_pos h2, if_pos (by omega)]
    · rw [if_neg h2, if_neg (by omega)]
theorem mt_four {m : MN} {k : Nat} (hk : k < 4) : (mt m 4).L k = m.tick.L k := by unfold mt MN.tick; simp [hk]
theorem upd_self {α : Type} (f : Nat → α) (j : Nat) : upd f j (f j) = f := by funext k; unfold upd; split <;> simp_all
theorem nvc_set (a : Nat → Option Addr) (l c : Nat → Nat) (fu lo mo : Int) {j : Nat} (hj : j < 4) (x : Option Addr) (xc : Nat) : (nvc a l c fu lo mo).setIfInBounds j (.slice x (l j) xc) = nvc (upd a j x) l (upd c j xc) fu lo mo := by
  obtain rfl | rfl | rfl | rfl : j = 0 ∨ j = 1 ∨ j = 2 ∨ j = 3 := by omega
  all_goals rfl
theorem nvc_get (a : Nat → Option Addr) (l c : Nat → Nat) (fu lo mo : Int) {j : Nat} (hj : j < 4) : (nvc a l c fu lo mo)[j]? = some (.slice (a j) (l j) (c j)) := by
  obtain rfl | rfl | rfl | rfl : j = 0 ∨ j = 1 ∨ j = 2 ∨ j = 3 := by omega
  all_goals rfl
def half (l : List E) (i : Nat) : List E := oldE (l.take i) ++ l.drop i
theorem half_len (l : List E) (i : Nat) : (half l i).length = l.length := by unfold half oldE; rw [List.length_append, List.length_map, List.length_take, List.length_drop]; omega
theorem half_zero (l : List E) : half l 0 = l := by simp [half, oldE]
theorem half_all (l : List E) : half l l.length = oldE l := by unfold half; rw [List.take_of_length_le (Nat.le_refl _), List.drop_of_length_le (Nat.le_refl _), List.append_nil]
theorem half_at (l : List E) (i : Nat) {e : E} (he : l[i]? = some e) : (half l i)[i]? = some e ∧ half l (i + 1) = (half l i).set i (e.1, e.2 + 1) := by
  obtain ⟨hi, hv⟩ := List.getElem?_eq_some_iff.1 he
  have hlen : (oldE (l.take i)).length = i := by unfold oldE; rw [List.length_map, List.length_take]; omega
  have hd : l.drop i = e :: l.drop (i + 1) := by rw [List.drop_eq_getElem_cons hi, hv]
  constructor
  · unfold half; rw [List.getElem?_append_right (by omega), hlen, Nat.sub_self, hd]; rfl
  · unfold half
    rw [List.set_append, if_neg (by omega), hlen, Nat.sub_self, hd, List.take_succ_eq_append_getElem hi, hv]
    simp [oldE]
def TRes (w : World) (O : Nat → Prop) (m : MN) (e : Ending) (W : World) : Prop :=
  ∃ a l c es, e = .returned (dnv a l c m.full m.long m.moved) ∧ DN W O a l c es m ∧ Below w.heap.size w W
def O2 (w : World) (O : Nat → Prop) : Nat → Prop := fun g => O g ∨ g = w.heap.size ∨ g = w.heap.size + 1
structure TInv (w : World) (O : Nat → Prop) (m : MN) (l : Nat → Nat) (j : Nat) (a : Nat → Option Addr) (c : Nat → Nat) (es : Nat → List E) (W : World) : Prop where
  dn : DN W (O2 w O) a l c es (mt m j)
  box : Blk W w.heap.size 71 (nvc a l c m.full m.long m.moved)
  res : Blk W (w.heap.size + 1) 71 z7
  below : Below w.heap.size w W
theorem TInv.next {w w1 w2 w3 : World} {O : Nat → Prop} {m : MN} {l : Nat → Nat} {j : Nat} {a : Nat → Option Addr} {c : Nat → Nat} {es : Nat → List E} {x : Option Addr} {xc n : Nat} (h : TInv w O m l j a c es w1) (hj : j < 4) (hO : ∀ g, O g → g < w.heap.size) (hB : Below w1.heap.size w1 w2) (hn : n = l j) (hz : w.heap.size + 2 ≤ w1.heap.size)
    (hown : ∀ g, (Value.slice x n xc).ownBlock = some g → w1.heap.size ≤ g)
    (hL : On w3 141 2 (.slice x n xc) n (flat ecs (oldE (es j)))) (hT : Touch (fun g => (Value.slice x n xc).ownBlock = some g) w2 w3) :
    TInv w O m l (j + 1) (upd a j x) (upd c j xc) (upd es j (oldE (es j))) (w3.setCell ⟨w.heap.size, j, none⟩ (.slice x n xc)) := by
  have hB3 : Below w1.heap.size w1 w3 := hB.trans (hT.below hB.size hown)
  have hz1 := hB3.size
  have hbx := h.box.below hB3 h.box.lt
  have hln : (oldE (es j)).length = l j := by unfold oldE; rw [List.length_map]; exact (h.dn.ln j hj).symm
  have hTw : Touch (fun g => g = w.heap.size) w3 (w3.setCell ⟨w.heap.size, j, none⟩ (.slice x n xc)) := (Touch.refl (fun g => g = w.heap.size) w3).setCell (p := ⟨w.heap.size, j, none⟩) (.inl rfl) _
  have hB4 : Below w.heap.size w (w3.setCell ⟨w.heap.size, j, none⟩ (.slice x n xc)) := (h.below.trans (hB3.mono h.below.size)).trans (hTw.below (by omega) (fun k hk => by omega))
  have hd4 : DN (w3.setCell ⟨w.heap.size, j, none⟩ (.slice x n xc)) (O2 w O) a l c es (mt m j) :=
    (h.dn.below hB3).go (hTw.mono fun g hg => .inl (.inr (.inl hg))) (fun g hg => .inl hg)
  have hLf : On (w3.setCell ⟨w.heap.size, j, none⟩ (.slice x n xc)) 141 2 (.slice x n xc) n (flat ecs (oldE (es j))) := hL.far (p := ⟨w.heap.size, j, none⟩) (fun e => by have := hown _ e; simp at this; omega) _
  have hput := hd4.put hj (x := x) (xc := xc) (e' := oldE (es j)) (l' := older (m.L j)) (by unfold Lst; rw [hln, ← hn]; exact hLf)
    (by unfold oldE older; rw [List.length_map, List.length_map]; have := h.dn.len j hj; unfold mt at this; simpa using this)
    (fun i e y he hy => by
      unfold oldE at he; unfold older at hy
      rw [List.getElem?_map] at he hy
      cases h1 : (es j)[i]? with
      | none => rw [h1] at he; cases he
      | some e1 =>
        cases h2 : (m.L j)[i]? with
        | none => rw [h2] at hy; cases hy
        | some y1 =>
          rw [h1] at he; rw [h2] at hy
          cases he; cases hy
          obtain ⟨q1, q2⟩ := hd4.dat j hj i e1 y1 h1 (by show (if j < j then _ else m.L j)[i]? = _; rw [if_neg (by omega)]; exact h2)
          exact ⟨by show e1.2 + 1 = y1.2 + 1; rw [q1], q2⟩)
    (fun g hg hOg => by
      rw [hln, ← hn] at hg
      have := hown g hg
      rcases hOg with q | q | q
      · have := hO g q; omega
      · omega
      · omega)
  rw [mt_put, hln, upd_self] at hput
  refine ⟨hput, ?_, ?_, hB4⟩
  · rw [← nvc_set a l c _ _ _ hj x xc, ← hn]
    exact hbx.set_ j _
  · exact (h.res.below hB3 h.res.lt).far (p := ⟨w.heap.size, j, none⟩) (by simp) _
set_option maxRecDepth 100000 in
set_option maxHeartbeats 4000000 in
theorem rtick_any (w : World) (O : Nat → Prop) (a : Nat → Option Addr) (l c : Nat → Nat) (es : Nat → List E) (m : MN) (cm : Int) (h : DN w O a l c es m) (hm : MOk m cm) (hcm : cm ≤ 1000000) (hO : ∀ g, O g → g < w.heap.size) :
    Calls Try.prog 93 #[dnv a l c m.full m.long m.moved] w (TRes w O m.tick) := by
  have HH := Lib.hid h
  have HM := Lib.hid hm
  have hl128 : ∀ k, k < 4 → l k ≤ 128 := fun k hk => by rw [h.lnm hk]; exact hm.len k hk
  clear h hm
  unfold dnv nc
  go_enter Try.func93, Try.ntmps93
  go_wp2_with fail
  go_loopw [3] (fun iv W => ∃ (j : Nat) (a' : Nat → Option Addr) (c' : Nat → Nat) (es' : Nat → List E), j ≤ 4 ∧ iv = .int .i64 (j : Int) ∧ TInv w O m l j a' c' es' W) (fun iv _ => 4 - (intOf iv).toNat)
  case atStart =>
    have hB : Below w.heap.size w ((w.alloc (.cells (nvc a l c m.full m.long m.moved) 71)).alloc (.cells z7 71)) := ((Below.refl _ w).alloc (Nat.le_refl _) _).alloc (by simp) _
    refine ⟨0, a, c, es, by omega, rfl, ?_, (Blk.new w _ _).alloc _, ?_, hB⟩
    · rw [mt_zero]
      exact (HH.out.widen (O' := O2 w O) (fun g hg => hg.elim .inl (fun e => .inr (by omega)))).below hB
    · have := Blk.new (w.alloc (.cells (nvc a l c m.full m.long m.moved) 71)) 71 z7
      rw [World.size_alloc] at this
      exact this
  case round =>
    obtain ⟨j, a', c', es', hj, rfl, hI⟩ := hrel
    by_cases hj4 : j < 4
    · have b0 : wr.cell? ⟨w.heap.size, j, none⟩ = some (.slice (a' j) (l j) (c' j)) := (hI.box.cell j).trans (nvc_get _ _ _ _ _ _ hj4)
      have hes := (hI.dn.ln j hj4).symm
      have hL := hI.dn.lst j hj4
      unfold Lst at hL
      rw [hes] at hL
      have hlj := hl128 j hj4
      have pc := Lib.hid (copied_all wr (a' j) (l j) (c' j) (es' j) hes hL (hI.dn.sls hj4) (by omega))
      have HI := Lib.hid hI
      have HES := Lib.hid hes
      have i1 : (0 : Int) ≤ (j : Int) := by omega
      have i2 : (j : Int) < 4 := by omega
      have hz2 : w.heap.size + 2 ≤ wr.heap.size := by have := hI.res.lt; omega
      obtain ⟨wo, hwo⟩ : ∃ wo : World, wo = wr := ⟨_, rfl⟩
      have hages : ∀ e ∈ es' j, 0 ≤ e.2 ∧ e.2 ≤ 1000000 := fun e he => by
        obtain ⟨i, hi⟩ := List.mem_iff_getElem?.1 he
        have hlt := (List.getElem?_eq_some_iff.1 hi).1
        rw [hI.dn.len j hj4] at hlt
        obtain ⟨q1, _⟩ := hI.dn.dat j hj4 i e _ hi (List.getElem?_eq_getElem hlt)
        have hmem : (mt m j).L j = m.L j := by show (if j < j then _ else m.L j) = _; rw [if_neg (by omega)]
        have := HM.out.sz j hj4 ((mt m j).L j)[i] (by rw [← hmem]; exact List.getElem_mem _)
        rw [q1]; omega
      have HAGE := Lib.hid hages
      clear hI hL hes hages
      go_wp2_with fail
      refine pc.out.mono ?_
      clear pc
      rintro e w2 ⟨ca, cc, rfl, hL2, hown2, hB2⟩
      unfold Lst at hL2
      rw [HES.out] at hL2 hown2 ⊢
      obtain ⟨n, hn⟩ : ∃ n, n = l j := ⟨_, rfl⟩
      rw [← hn] at hL2 hown2 hlj ⊢
      have HN := Lib.hid hn
      have HOWN := Lib.hid hown2
      have HB2 := Lib.hid hB2
      have HL2 := Lib.hid hL2
      have hHN : (es' j).length = n := by rw [HES.out, hn]
      have HEN := Lib.hid hHN
      rw [← hwo] at HI HOWN HB2 hz2
      have HWO := Lib.hid hwo
      clear hn hown2 hB2 hL2 hHN b0 hwo
      go_wp2_with fail
      go_loopw [5] (fun iv W => ∃ i : Nat, i ≤ n ∧ iv = .int .i64 (i : Int) ∧ On W 141 2 (.slice ca n cc) n (flat ecs (half (es' j) i)) ∧ Touch (fun g => (Value.slice ca n cc).ownBlock = some g) w2 W) (fun iv _ => n - (intOf iv).toNat)
      case atStart => exact ⟨0, Nat.zero_le _, rfl, by rw [half_zero]; exact HL2.out, Touch.refl _ _⟩
      case round =>
        obtain ⟨i, hi, rfl, hon, hT⟩ := hrel
        by_cases hlt : i < n
        · obtain ⟨e, he⟩ : ∃ e, (es' j)[i]? = some e := ⟨_, List.getElem?_eq_getElem (by rw [HEN.out]; exact hlt)⟩
          obtain ⟨t1, t2⟩ := half_at (es' j) i he
          obtain ⟨ag1, ag2⟩ := HAGE.out e (List.mem_of_getElem? he)
          rcases hon.form with ⟨_, h0, _⟩ | ⟨g, cap, hv, hnc, hcm2, hown, hg, hc, hf⟩
          · omega
          cases hv
          have g1 := flat_get (cs := ecs) (s := 2) (fun _ => rfl) _ t1 (i := 1) (by omega)
          have m1 := hc (i * 2 + 1) _ g1
          have m1' : wr.cell? ⟨g, i * 2 + 1, none⟩ = some (.int .i64 e.2) := m1
          have f1 := hf (i * 2 + 1)
          obtain ⟨ev, hev⟩ : ∃ ev, ev = e.2 := ⟨_, rfl⟩
          rw [← hev] at m1' ag1 ag2
          have hst := On.store_n hon (i * 2 + 1) (.int .i64 (ev + 1))
          rw [hev, flat_set _ i t1, ← t2, ← hev] at hst
          have hT2 := hT.setCell (p := ⟨g, i * 2 + 1, none⟩) (.inl rfl) (.int .i64 (ev + 1))
          have HST := Lib.hid hst
          have HT2 := Lib.hid hT2
          have k1 : (0 : Int) ≤ (i : Int) := by omega
          have k2 : (i : Int) < (n : Int) := by omega
          clear hon hT he t1 t2 hc hf g1 m1 hev hst hT2 hg hown
          go_wp2_with fail
          go_roundw
          case rel => exact ⟨i + 1, by omega, by go_num, HST.out, HT2.out⟩
          case measure => simp [intOf]; omega
        · obtain rfl : i = n := by omega
          rw [← HEN.out, half_all, HEN.out] at hon
          have hnx := HI.out.next hj4 hO HB2.out HN.out hz2 HOWN.out hon hT
          have hbx : Blk wr w.heap.size 71 (nvc a' l c' m.full m.long m.moved) := (HI.out.box.below HB2.out HI.out.box.lt).touch hT (fun e => by have := HOWN.out _ e; have := HI.out.box.lt; omega)
          have b0 := (hbx.cell j).trans (nvc_get _ _ _ _ _ _ hj4)
          have f0 := hbx.frozen j
          have HNX := Lib.hid hnx
          clear hnx hbx hon hT
          go_wp2_with fail
          go_roundw
          case rel => exact ⟨j + 1, _, _, _, by omega, by go_num, HNX.out⟩
          case measure => simp [intOf]; omega
    · obtain rfl : j = 4 := by omega
      have hbx := hI.box
      have hrs := hI.res
      have b0 := hbx.cell 0; have b1 := hbx.cell 1; have b2 := hbx.cell 2; have b3 := hbx.cell 3; have b4 := hbx.cell 4; have b5 := hbx.cell 5; have b6 := hbx.cell 6
      have r0 := hrs.cell 0; have r1 := hrs.cell 1; have r2 := hrs.cell 2; have r3 := hrs.cell 3; have r4 := hrs.cell 4; have r5 := hrs.cell 5; have r6 := hrs.cell 6
      unfold nvc at b0 b1 b2 b3 b4 b5 b6
      unfold z7 at r0 r1 r2 r3 r4 r5 r6
      have fb := hbx.frozen; have fr := hrs.frozen
      have HI := Lib.hid hI
      clear hI hbx hrs
      go_wp2_with fail
      refine bodyPost_ret (v := .agg (nvc a' l c' m.full m.long m.moved)) (by simp [results, Try.results93, go_sem, nvc, r0, r1, r2, r3, r4, r5, r6]) rfl ?_
      have hdn : DN wr (O2 w O) a' l c' es' m.tick := ⟨HI.out.dn.lst, HI.out.dn.ln, fun k hk => by rw [← mt_four hk]; exact HI.out.dn.len k hk, fun k hk i e x he hx => HI.out.dn.dat k hk i e x he (by rw [mt_four hk]; exact hx), HI.out.dn.own⟩
      have hfin : ∀ W, Touch (fun g => g = w.heap.size + 1) wr W → TRes w O m.tick (.returned (.agg (nvc a' l c' m.full m.long m.moved))) W := fun W hT =>
        ⟨a', l, c', es', rfl, hdn.go (hT.mono fun g hg => .inl (.inr (.inr hg))) (fun g hg => .inl (.inl hg)), HI.out.below.trans (hT.below HI.out.below.size (fun k hk => by omega))⟩
      refine hfin _ ?_
      iterate 7 (refine Touch.setCell ?_ (by simp) _)
      exact Touch.refl _ _

/-! ### All of any numbers -/
def MRes (w : World) (O : Nat → Prop) (r : MN × List Int × Int) (e : Ending) (W : World) : Prop :=
  ∃ a l c es da dl dc, e = .returned (.tuple #[dnv a l c r.1.full r.1.long r.1.moved, .slice da dl dc, .int .i64 r.2.2]) ∧ DN W O a l c es r.1 ∧ Rd W O da dl r.2.1 ∧ Below w.heap.size w W
section
variable {w : World} {O : Nat → Prop} {a : Nat → Option Addr} {l c : Nat → Nat} {es : Nat → List E} {m : MN} {cm : Int}
theorem DN.no (h : DN w O a l c es m) {d b : Int} (hw : isWay d b) {i : Int} (hx : (m.L (wayNo d b))[place i (m.L (wayNo d b))]? = none) : RAtNo w a l c m.full m.long m.moved d b i 91 := by
  obtain ⟨k, q, hk, h4⟩ := w4 hw
  have hk4 := wayNo_lt hw
  rw [hk] at hk4 hx
  refine ratNo_none w a l c _ _ _ d b i k q h4 ?_
  rw [h.lnm hk4]
  by_cases he : m.L k = []
  · rw [he]; rfl
  · have := (place_lt i he).1
    rw [List.getElem?_eq_getElem this] at hx
    cases hx
theorem DRes.self (h : DN w O a l c es m) {q : Int} {e : Ending} {W : World} (hR : RRes w (dnv a l c m.full m.long m.moved) q e W) : DRes w O (m, q) e W :=
  ⟨a, l, c, es, hR.1, h.below hR.2, hR.2⟩
/-- The way's head, where there is one. -/
theorem DN.head (h : DN w O a l c es m) {k p : Nat} (hk : k < 4) {x : Ml} (hx : (m.L k)[p]? = some x) : ∃ g, a k = some ⟨g, 0, none⟩ := by
  have hl := (List.getElem?_eq_some_iff.1 hx).1
  have h1 := h.lst k hk
  unfold Lst at h1
  rcases h1.form with ⟨_, h0, _⟩ | ⟨g, cap, hv, _⟩
  · have := h.len k hk; omega
  · exact ⟨g, (Value.slice.inj hv).1⟩
end
theorem rdrop_any (w : World) (O : Nat → Prop) (a : Nat → Option Addr) (l c : Nat → Nat) (es : Nat → List E) (m : MN) (cm : Int) (d b i : Int) (h : DN w O a l c es m) (hm : MOk m cm) (hO : ∀ g, O g → g < w.heap.size) (hi : -9223372036854775808 ≤ i ∧ i ≤ 9223372036854775807) :
    Calls Try.prog 89 #[dnv a l c m.full m.long m.moved, .int .i64 d, .int .i64 b, .int .i64 i] w (DRes w O (m.drop d b i)) := by
  unfold MN.drop
  by_cases hw : isWay d b
  · rw [if_pos hw]
    cases hx : (m.L (wayNo d b))[place i (m.L (wayNo d b))]? with
    | none => exact (rdrop_no w a l c _ _ _ d b i 91 (h.no hw hx) (by decide)).mono fun e W hR => DRes.self h hR
    | some x =>
      have hne : m.L (wayNo d b) ≠ [] := fun e => by rw [e] at hx; simp at hx
      have hpl := (place_lt i hne).2
      have hplt := (place_lt i hne).1
      obtain ⟨k, q, hk, h4⟩ := w4 hw
      have hk4 := wayNo_lt hw
      rw [hk] at hk4 hx hpl hplt ⊢
      refine (rdrop_ok w a l c _ _ _ d b i k q _ (es k) h4 hi (by rw [h.lnm hk4]; exact hpl) (by rw [h.lnm hk4]; omega) (by rw [h.lnm hk4]; exact hm.len k hk4) (h.lst k hk4) (h.ln k hk4).symm (h.sls hk4)).mono fun e W hR => ?_
      exact DRes.put h hk4 hO (by rw [List.length_eraseIdx, List.length_eraseIdx, h.len k hk4]) (h.erase hk4 _) rfl hR
  · rw [if_neg hw]
    exact (rdrop_no w a l c _ _ _ d b i 62 (ratNo_out w a l c _ _ _ d b i hw) (by decide)).mono fun e W hR => DRes.self h hR
theorem rmove_any (w : World) (O : Nat → Prop) (a : Nat → Option Addr) (l c : Nat → Nat) (es : Nat → List E) (m : MN) (cm : Int) (d b i : Int) (h : DN w O a l c es m) (hm : MOk m cm) (hcm : cm ≤ 1000000) (hO : ∀ g, O g → g < w.heap.size) (hi : -9223372036854775808 ≤ i ∧ i ≤ 9223372036854775807) :
    Calls Try.prog 88 #[dnv a l c m.full m.long m.moved, .int .i64 d, .int .i64 b, .int .i64 i] w (MRes w O (m.move d b i)) := by
  unfold MN.move
  have hno : ∀ (q : Int) e W, e = .returned (.tuple #[dnv a l c m.full m.long m.moved, .slice none 0 0, .int .i64 q]) ∧ Below w.heap.size w W → MRes w O (m, [], q) e W := fun q e W ⟨h1, h2⟩ =>
    ⟨a, l, c, es, none, 0, 0, h1, h.below h2, ⟨rfl, fun h => absurd h (by omega)⟩, h2⟩
  by_cases hw : isWay d b
  · rw [if_pos hw]
    cases hx : (m.L (wayNo d b))[place i (m.L (wayNo d b))]? with
    | none => exact (rmove_no w a l c _ _ _ d b i 91 (h.no hw hx) (by decide)).mono (hno 91)
    | some x =>
      have hne : m.L (wayNo d b) ≠ [] := fun e => by rw [e] at hx; simp at hx
      have hpl := (place_lt i hne).2
      have hplt := (place_lt i hne).1
      obtain ⟨k, q, hk, h4⟩ := w4 hw
      have hk4 := wayNo_lt hw
      rw [hk] at hk4 hx hpl hplt ⊢
      obtain ⟨g, hg⟩ := h.head hk4 hx
      obtain ⟨e0, da, dc, he0, ha0, hv0, hrd⟩ := h.got hk4 hx
      have hmo := hm.moved
      refine (rmove_ok w a l c _ _ _ d b i k q _ (es k) e0 da _ dc g h4 hi (by rw [h.lnm hk4]; exact hpl) (by rw [h.lnm hk4]; omega) (by rw [h.lnm hk4]; exact hm.len k hk4) (h.lst k hk4) (h.ln k hk4).symm (h.sls hk4) he0 hv0 (by omega) (by omega) hg).mono fun e W hR => ?_
      obtain ⟨y, yc, rfl, hL, hown, hB⟩ := hR
      have h2 := (h.below hB).put hk4 (l' := (m.L k).eraseIdx (place i (m.L k))) hL (by rw [List.length_eraseIdx, List.length_eraseIdx, h.len k hk4]) (fun j e y he hy => by
        obtain ⟨h1, da, dc, h2, h3⟩ := h.erase hk4 _ j e y he hy
        exact ⟨h1, da, dc, h2, h3.below hB⟩) (fun g hg hOg => by have := hown g hg; have := hO g hOg; omega)
      exact ⟨_, _, _, _, da, _, dc, rfl, ⟨h2.lst, h2.ln, h2.len, h2.dat, h2.own⟩, hrd.below hB, hB⟩
  · rw [if_neg hw]
    exact (rmove_no w a l c _ _ _ d b i 62 (ratNo_out w a l c _ _ _ d b i hw) (by decide)).mono (hno 62)
theorem rdouble_any (w : World) (O : Nat → Prop) (a : Nat → Option Addr) (l c : Nat → Nat) (es : Nat → List E) (m : MN) (cm : Int) (d b i : Int) (h : DN w O a l c es m) (hm : MOk m cm) (hcm : cm ≤ 1000000) (hO : ∀ g, O g → g < w.heap.size) (hi : -9223372036854775808 ≤ i ∧ i ≤ 9223372036854775807) :
    Calls Try.prog 90 #[dnv a l c m.full m.long m.moved, .int .i64 d, .int .i64 b, .int .i64 i] w (DRes w O (m.double d b i)) := by
  unfold MN.double
  by_cases hw : isWay d b
  · rw [if_pos hw]
    cases hx : (m.L (wayNo d b))[place i (m.L (wayNo d b))]? with
    | none => exact (rdouble_no w a l c _ _ _ d b i 91 (h.no hw hx) (by decide)).mono fun e W hR => DRes.self h hR
    | some x =>
      have hne : m.L (wayNo d b) ≠ [] := fun e => by rw [e] at hx; simp at hx
      have hpl := (place_lt i hne).2
      have hplt := (place_lt i hne).1
      obtain ⟨k, q, hk, h4⟩ := w4 hw
      have hk4 := wayNo_lt hw
      rw [hk] at hk4 hx hpl hplt
      dsimp only
      obtain ⟨g, hg⟩ := h.head hk4 hx
      obtain ⟨e0, da, dc, he0, ha0, hv0, hrd⟩ := h.got hk4 hx
      refine rdouble_yes w O a l c _ _ _ d b i k q _ (es k) e0 da _ dc g _ h4 hi (by rw [h.lnm hk4]; exact hpl) (by rw [h.lnm hk4]; omega) (by rw [h.lnm hk4]; exact hm.len k hk4) (h.lst k hk4) (h.ln k hk4).symm he0 hv0 hg (fun W hB hz => ?_)
      have hw2 : ∀ g, (O g ∨ g = w.heap.size + 1) → O g ∨ w.heap.size ≤ g := fun g hg => hg.elim .inl (fun e => .inr (by omega))
      exact rsend_any W _ a l c es m cm d b da _ dc x.1 ((h.widen hw2).below hB) hm hcm ((hrd.go (Touch.refl _ _) hw2).below hB) rfl (fun g hg => hg.elim (fun e => by have := hO g e; omega) (fun e => by omega))
  · rw [if_neg hw]
    exact (rdouble_no w a l c _ _ _ d b i 62 (ratNo_out w a l c _ _ _ d b i hw) (by decide)).mono fun e W hR => DRes.self h hR
theorem rspoil_any (w : World) (O : Nat → Prop) (a : Nat → Option Addr) (l c : Nat → Nat) (es : Nat → List E) (m : MN) (cm : Int) (d b i y : Int) (h : DN w O a l c es m) (hm : MOk m cm) (hO : ∀ g, O g → g < w.heap.size) (hi : -9223372036854775808 ≤ i ∧ i ≤ 9223372036854775807) :
    Calls Try.prog 91 #[dnv a l c m.full m.long m.moved, .int .i64 d, .int .i64 b, .int .i64 i, .int .u8 y] w (DRes w O (m.spoil d b i y)) := by
  unfold MN.spoil
  by_cases hw : isWay d b
  · rw [if_pos hw]
    cases hx : (m.L (wayNo d b))[place (-1) (m.L (wayNo d b))]? with
    | none => exact (rspoil_no w a l c _ _ _ d b i y 91 (h.no hw hx) (by decide)).mono fun e W hR => DRes.self h hR
    | some x =>
      have hne : m.L (wayNo d b) ≠ [] := fun e => by rw [e] at hx; simp at hx
      have hpl := (place_lt (-1) hne).2
      have hplt := (place_lt (-1) hne).1
      obtain ⟨k, q, hk, h4⟩ := w4 hw
      have hk4 := wayNo_lt hw
      rw [hk] at hk4 hx hpl hplt ⊢
      dsimp only
      obtain ⟨g, hg⟩ := h.head hk4 hx
      by_cases hx0 : x.1 = []
      · rw [if_pos hx0]
        obtain ⟨e0, da, dc, he0, ha0, hv0, hrd⟩ := h.got hk4 hx
        rw [hx0] at hv0
        exact (rspoil_empty w a l c _ _ _ d b i y k q _ (es k) e0 da dc g h4 (by rw [h.lnm hk4]; exact hpl) (by rw [h.lnm hk4]; omega) (by rw [h.lnm hk4]; exact hm.len k hk4) (h.lst k hk4) (h.ln k hk4).symm he0 hv0 hg).mono fun e W hR => DRes.self h hR
      · rw [if_neg hx0]
        have hl : 0 < x.1.length := List.length_pos_iff.2 hx0
        obtain ⟨q2, hq2⟩ : ∃ q2 : Nat, (i % (x.1.length : Int)) = q2 := ⟨(i % (x.1.length : Int)).toNat, by have := Int.emod_nonneg i (show (x.1.length : Int) ≠ 0 by omega); omega⟩
        have := rspoil_yes w O a l c es m d b i y k q _ x q2 g h h4 hk4 hO hi (by rw [h.lnm hk4]; exact hpl) (by rw [h.lnm hk4]; exact hm.len k hk4) hx hl (hm.sz k hk4 x (List.mem_of_getElem? hx)).1 hq2 hg
        have e1 : xorAt x.1 i y = x.1.set q2 (bits .xor .u8 (nth x.1 q2) y) := by unfold xorAt; rw [hq2]; rfl
        rw [e1]
        exact this
  · rw [if_neg hw]
    exact (rspoil_no w a l c _ _ _ d b i y 62 (ratNo_out w a l c _ _ _ d b (-1) hw) (by decide)).mono fun e W hR => DRes.self h hR
end Go.Proofs.Ytmceaffoffemlaa.Netw
