/-
  The document's net: Spoil. Conditions: the lists lie in memory; counts below a million.
-/
import Derived.Test.YtmceaffoffemlaaNetS
import Derived.Test.YtmceaffoffemlaaNetL
namespace Go.Proofs.Ytmceaffoffemlaa.Netw
open Go.RowKit
set_option linter.all false

theorem flat_set0 (l : List E) (i : Nat) {e : E} (he : l[i]? = some e) (v : Value) : (flat ecs l).set (i * 2) v = flat ecs (l.set i (v, e.2)) := by
  induction l generalizing i with
  | nil => simp at he
  | cons a r ih =>
    cases i with
    | zero => simp at he; subst he; simp [flat, ecs]
    | succ i =>
      have he' : r[i]? = some e := by simpa using he
      have := ih i he'
      have e2 : (i + 1) * 2 = (i * 2) + 2 := by omega
      rw [e2]
      simp only [flat, List.flatMap_cons, List.set_cons_succ] at this ⊢
      simp only [ecs, List.cons_append, List.nil_append, List.set_cons_succ]
      rw [← this]
theorem on_rd {W : World} {O : Nat → Prop} {g n c : Nat} {bs : List Int} (h : On W 5 1 (.slice (some ⟨g, 0, none⟩) n c) n (bs.map (.int .u8))) (hO : ¬ O g) : Rd W O (some ⟨g, 0, none⟩) n bs := by
  have hr := on_row h
  refine ⟨hr.1, fun hp => ?_⟩
  obtain ⟨b, off, e, hb, hc⟩ := hr.2 hp
  cases e
  exact ⟨g, 0, rfl, hb, hO, hc⟩
theorem rspoil_fin {w w3 w4 Wf : World} {O : Nat → Prop} {a : Nat → Option Addr} {l c : Nat → Nat} {es : Nat → List E} {m : MN} {k p q cb cc n xg xc : Nat} {z : Int} {x : Ml} {e : Ending}
    (h : DN w O a l c es m) (hk : k < 4) (hO : ∀ g, O g → g < w.heap.size) (hx : (m.L k)[p]? = some x)
    (hB3 : Below w.heap.size w w3) (hn : n = (es k).length) (hL3 : On w3 141 2 (.slice (some ⟨cb, 0, none⟩) n cc) n (flat ecs (es k))) (hcb : w.heap.size + 2 ≤ cb) (hcb3 : cb < w3.heap.size)
    (hB4 : Below w3.heap.size w3 w4) (hd : On w4 5 1 (.slice (some ⟨xg, 0, none⟩) x.1.length xc) x.1.length (x.1.map (.int .u8))) (hxg : w3.heap.size ≤ xg)
    (hT : Touch (fun g => g = w.heap.size ∨ g = w.heap.size + 1) ((w4.setCell ⟨xg, q, none⟩ (.int .u8 z)).setCell ⟨cb, p * 2, none⟩ (.slice (some ⟨xg, 0, none⟩) x.1.length xc)) Wf)
    (he : e = .returned (.tuple #[dnv (upd a k (some ⟨cb, 0, none⟩)) (upd l k n) (upd c k cc) m.full m.long m.moved, .int .i64 0])) :
    DRes w O (m.put k ((m.L k).set p (x.1.set q z, x.2)), 0) e Wf := by
  have zw3 := hB3.size
  have z34 := hB4.size
  have hBf : Below w.heap.size w Wf := by
    have h4 := hB3.trans (hB4.mono zw3)
    refine ((h4.setCell (p := ⟨xg, q, none⟩) (by simp; omega) _).setCell (p := ⟨cb, p * 2, none⟩) (by simp; omega) _).trans (hT.below ?_ (fun k hk => by omega))
    simp [World.setCell]; omega
  obtain ⟨e0, da, dc, he0, ha0, hv0, _⟩ := h.got hk hx
  have hLs := On.store_n (((hL3.below hB4 (fun g hg => hL3.lt g hg)).far (p := ⟨xg, q, none⟩) (by simp [Value.ownBlock]; omega) (.int .u8 z))) (p * 2) (.slice (some ⟨xg, 0, none⟩) x.1.length xc)
  rw [flat_set0 _ _ he0] at hLs
  have hds := ((hd.store q (.int .u8 z)).far (p := ⟨cb, p * 2, none⟩) (by simp [Value.ownBlock]; omega) (.slice (some ⟨xg, 0, none⟩) x.1.length xc)).touch hT (fun g hg => by simp [Value.ownBlock] at hg; omega)
  have hLf := hLs.touch hT (fun g hg => by simp [Value.ownBlock] at hg; omega)
  have hlen : ((es k).set p (Value.slice (some ⟨xg, 0, none⟩) x.1.length xc, e0.2)).length = n := by rw [List.length_set, hn]
  have hput := (h.below hBf).put hk (x := some ⟨cb, 0, none⟩) (xc := cc) (e' := (es k).set p (Value.slice (some ⟨xg, 0, none⟩) x.1.length xc, e0.2)) (l' := (m.L k).set p (x.1.set q z, x.2))
    (by unfold Lst; rw [hlen]; exact hLf) (by rw [List.length_set, List.length_set]; exact h.len k hk) (fun j e y he hy => ?_) (fun g hg hOg => by
      simp [Value.ownBlock] at hg
      have := hO g hOg; omega)
  · rw [hlen] at hput
    exact ⟨_, _, _, _, he, hput, hBf⟩
  · rw [List.getElem?_set] at he hy
    have hl1 := (List.getElem?_eq_some_iff.1 he0).1
    have hl2 := (List.getElem?_eq_some_iff.1 hx).1
    by_cases hpj : p = j
    · rw [if_pos hpj, if_pos (by omega)] at he
      rw [if_pos hpj, if_pos (by omega)] at hy
      cases he; cases hy
      refine ⟨ha0, some ⟨xg, 0, none⟩, xc, by show _ = Value.slice _ (x.1.set q z).length _; rw [List.length_set], ?_⟩
      show Rd Wf O _ (x.1.set q z).length (x.1.set q z)
      rw [List.length_set]
      refine on_rd (c := xc) ?_ (fun hOg => by have := hO _ hOg; omega)
      rw [← List.map_set] at hds
      exact hds
    · rw [if_neg hpj] at he hy
      exact (h.below hBf).dat k hk j e y he hy

set_option maxRecDepth 100000 in
set_option maxHeartbeats 4000000 in
theorem rspoil_empty (w : World) (a : Nat → Option Addr) (l c : Nat → Nat) (fu lo mo d b i y : Int) (k : Nat) (q : Int) (p : Nat) (es : List E) (e0 : E) (da : Option Addr) (dc g : Nat) (h : W4 d b k q) (hp : (-1) % (l k : Int) = p) (hl : 0 < l k) (hl2 : l k ≤ 128)
    (hL : Lst w (.slice (a k) (l k) (c k)) es) (hes : es.length = l k) (he : es[p]? = some e0) (hev : e0.1 = .slice da 0 dc) (ha : a k = some ⟨g, 0, none⟩) :
    Calls Try.prog 91 #[dnv a l c fu lo mo, .int .i64 d, .int .i64 b, .int .i64 i, .int .u8 y] w (RRes w (dnv a l c fu lo mo) 0) := by
  have pa' := fun W => rat_some W a l c fu lo mo d b (-1) k q h hl (by omega) (by omega)
  rw [hp] at pa'
  have hpl : p < l k := by rw [← hes]; exact (List.getElem?_eq_some_iff.1 he).1
  unfold Lst at hL
  rw [hes] at hL
  obtain ⟨cell0, hgl, hlck⟩ : w.cell? ⟨g, p * 2, none⟩ = some (.slice da 0 dc) ∧ g < w.heap.size ∧ l k ≤ c k := by
    rcases hL.form with ⟨_, h0, _⟩ | ⟨g', cap, hv, hnc, hcm, _, hg, hc, _⟩
    · omega
    · rw [ha] at hv
      cases hv
      have g0 := flat_get (cs := ecs) (s := 2) (fun _ => rfl) es he (i := 0) (by omega)
      have := hc (p * 2) _ g0
      rw [hev] at this
      exact ⟨this, hg, hnc⟩
  have pa := Lib.hid pa'
  have i1 : (0 : Int) ≤ (p : Int) := by omega
  have i2 : (p : Int) < (l k : Int) := by omega
  clear hL hes pa' hp he hev
  unfold dnv nc at pa
  unfold dnv nc
  rcases h with ⟨rfl, rfl, rfl, rfl⟩ | ⟨rfl, rfl, rfl, rfl⟩ | ⟨rfl, rfl, rfl, rfl⟩ | ⟨rfl, rfl, rfl, rfl⟩
  · obtain ⟨ak, hak⟩ : ∃ ak, ak = a 0 := ⟨_, rfl⟩
    rw [← hak] at ha
    have HA := Lib.hid ha
    have HK := Lib.hid hak
    go_enter Try.func91, Try.ntmps91
    clear ha hak
    go_wp2_with fail
    refine (pa.out _).mono ?_
    rintro e w2 ⟨rfl, hB⟩
    obtain ⟨hbx, hrs, hB2⟩ := two_box hB
    have b0 := hbx.cell 0; have b1 := hbx.cell 1; have b2 := hbx.cell 2; have b3 := hbx.cell 3; have b4 := hbx.cell 4; have b5 := hbx.cell 5; have b6 := hbx.cell 6
    clear b0
    have b0 : w2.cell? ⟨w.heap.size, 0, none⟩ = some (.slice (some ⟨g, 0, none⟩) (l 0) (c 0)) := (hbx.cell 0).trans (by show some (Value.slice (a 0) (l 0) (c 0)) = _; rw [← HK.out, HA.out])
    have r0 := hrs.cell 0; have r1 := hrs.cell 1; have r2 := hrs.cell 2; have r3 := hrs.cell 3; have r4 := hrs.cell 4; have r5 := hrs.cell 5; have r6 := hrs.cell 6
    have fb := hbx.frozen; have fr := hrs.frozen
    have c0 : w2.cell? ⟨g, p * 2, none⟩ = some (.slice da 0 dc) := (hB2.cell (p := ⟨g, p * 2, none⟩) hgl).trans cell0
    have HB := Lib.hid hB2
    have HRS := Lib.hid hrs
    clear hB hB2 hbx hrs pa cell0
    go_wp2_with fail
    refine bodyPost_ret (v := .tuple #[.agg #[.slice (if 0 = 0 then some ⟨g, 0, none⟩ else a 0) (l 0) (c 0), .slice (if 1 = 0 then some ⟨g, 0, none⟩ else a 1) (l 1) (c 1), .slice (if 2 = 0 then some ⟨g, 0, none⟩ else a 2) (l 2) (c 2), .slice (if 3 = 0 then some ⟨g, 0, none⟩ else a 3) (l 3) (c 3), .int .i64 fu, .int .i64 lo, .int .i64 mo], .int .i64 0]) (by simp [results, Try.results91, go_sem, r0, r1, r2, r3, r4, r5, r6]) rfl ⟨?_, two_end HB.out ?_⟩
    · have ee := HK.out.symm.trans HA.out
      simp [ee]
    · repeat (refine Touch.setCell ?_ (by simp) _)
      exact Touch.refl _ _
  · obtain ⟨ak, hak⟩ : ∃ ak, ak = a 1 := ⟨_, rfl⟩
    rw [← hak] at ha
    have HA := Lib.hid ha
    have HK := Lib.hid hak
    go_enter Try.func91, Try.ntmps91
    clear ha hak
    go_wp2_with fail
    refine (pa.out _).mono ?_
    rintro e w2 ⟨rfl, hB⟩
    obtain ⟨hbx, hrs, hB2⟩ := two_box hB
    have b0 := hbx.cell 0; have b1 := hbx.cell 1; have b2 := hbx.cell 2; have b3 := hbx.cell 3; have b4 := hbx.cell 4; have b5 := hbx.cell 5; have b6 := hbx.cell 6
    clear b1
    have b1 : w2.cell? ⟨w.heap.size, 1, none⟩ = some (.slice (some ⟨g, 0, none⟩) (l 1) (c 1)) := (hbx.cell 1).trans (by show some (Value.slice (a 1) (l 1) (c 1)) = _; rw [← HK.out, HA.out])
    have r0 := hrs.cell 0; have r1 := hrs.cell 1; have r2 := hrs.cell 2; have r3 := hrs.cell 3; have r4 := hrs.cell 4; have r5 := hrs.cell 5; have r6 := hrs.cell 6
    have fb := hbx.frozen; have fr := hrs.frozen
    have c0 : w2.cell? ⟨g, p * 2, none⟩ = some (.slice da 0 dc) := (hB2.cell (p := ⟨g, p * 2, none⟩) hgl).trans cell0
    have HB := Lib.hid hB2
    have HRS := Lib.hid hrs
    clear hB hB2 hbx hrs pa cell0
    go_wp2_with fail
    refine bodyPost_ret (v := .tuple #[.agg #[.slice (if 0 = 1 then some ⟨g, 0, none⟩ else a 0) (l 0) (c 0), .slice (if 1 = 1 then some ⟨g, 0, none⟩ else a 1) (l 1) (c 1), .slice (if 2 = 1 then some ⟨g, 0, none⟩ else a 2) (l 2) (c 2), .slice (if 3 = 1 then some ⟨g, 0, none⟩ else a 3) (l 3) (c 3), .int .i64 fu, .int .i64 lo, .int .i64 mo], .int .i64 0]) (by simp [results, Try.results91, go_sem, r0, r1, r2, r3, r4, r5, r6]) rfl ⟨?_, two_end HB.out ?_⟩
    · have ee := HK.out.symm.trans HA.out
      simp [ee]
    · repeat (refine Touch.setCell ?_ (by simp) _)
      exact Touch.refl _ _
  · obtain ⟨ak, hak⟩ : ∃ ak, ak = a 2 := ⟨_, rfl⟩
    rw [← hak] at ha
    have HA := Lib.hid ha
    have HK := Lib.hid hak
    go_enter Try.func91, Try.ntmps91
    clear ha hak
    go_wp2_with fail
    refine (pa.out _).mono ?_
    rintro e w2 ⟨rfl, hB⟩
    obtain ⟨hbx, hrs, hB2⟩ := two_box hB
    have b0 := hbx.cell 0; have b1 := hbx.cell 1; have b2 := hbx.cell 2; have b3 := hbx.cell 3; have b4 := hbx.cell 4; have b5 := hbx.cell 5; have b6 := hbx.cell 6
    clear b2
    have b2 : w2.cell? ⟨w.heap.size, 2, none⟩ = some (.slice (some ⟨g, 0, none⟩) (l 2) (c 2)) := (hbx.cell 2).trans (by show some (Value.slice (a 2) (l 2) (c 2)) = _; rw [← HK.out, HA.out])
    have r0 := hrs.cell 0; have r1 := hrs.cell 1; have r2 := hrs.cell 2; have r3 := hrs.cell 3; have r4 := hrs.cell 4; have r5 := hrs.cell 5; have r6 := hrs.cell 6
    have fb := hbx.frozen; have fr := hrs.frozen
    have c0 : w2.cell? ⟨g, p * 2, none⟩ = some (.slice da 0 dc) := (hB2.cell (p := ⟨g, p * 2, none⟩) hgl).trans cell0
    have HB := Lib.hid hB2
    have HRS := Lib.hid hrs
    clear hB hB2 hbx hrs pa cell0
    go_wp2_with fail
    refine bodyPost_ret (v := .tuple #[.agg #[.slice (if 0 = 2 then some ⟨g, 0, none⟩ else a 0) (l 0) (c 0), .slice (if 1 = 2 then some ⟨g, 0, none⟩ else a 1) (l 1) (c 1), .slice (if 2 = 2 then some ⟨g, 0, none⟩ else a 2) (l 2) (c 2), .slice (if 3 = 2 then some ⟨g, 0, none⟩ else a 3) (l 3) (c 3), .int .i64 fu, .int .i64 lo, .int .i64 mo], .int .i64 0]) (by simp [results, Try.results91, go_sem, r0, r1, r2, r3, r4, r5, r6]) rfl ⟨?_, two_end HB.out ?_⟩
    · have ee := HK.out.symm.trans HA.out
      simp [ee]
    · repeat (refine Touch.setCell ?_ (by simp) _)
      exact Touch.refl _ _
  · obtain ⟨ak, hak⟩ : ∃ ak, ak = a 3 := ⟨_, rfl⟩
    rw [← hak] at ha
    have HA := Lib.hid ha
    have HK := Lib.hid hak
    go_enter Try.func91, Try.ntmps91
    clear ha hak
    go_wp2_with fail
    refine (pa.out _).mono ?_
    rintro e w2 ⟨rfl, hB⟩
    obtain ⟨hbx, hrs, hB2⟩ := two_box hB
    have b0 := hbx.cell 0; have b1 := hbx.cell 1; have b2 := hbx.cell 2; have b3 := hbx.cell 3; have b4 := hbx.cell 4; have b5 := hbx.cell 5; have b6 := hbx.cell 6
    clear b3
    have b3 : w2.cell? ⟨w.heap.size, 3, none⟩ = some (.slice (some ⟨g, 0, none⟩) (l 3) (c 3)) := (hbx.cell 3).trans (by show some (Value.slice (a 3) (l 3) (c 3)) = _; rw [← HK.out, HA.out])
    have r0 := hrs.cell 0; have r1 := hrs.cell 1; have r2 := hrs.cell 2; have r3 := hrs.cell 3; have r4 := hrs.cell 4; have r5 := hrs.cell 5; have r6 := hrs.cell 6
    have fb := hbx.frozen; have fr := hrs.frozen
    have c0 : w2.cell? ⟨g, p * 2, none⟩ = some (.slice da 0 dc) := (hB2.cell (p := ⟨g, p * 2, none⟩) hgl).trans cell0
    have HB := Lib.hid hB2
    have HRS := Lib.hid hrs
    clear hB hB2 hbx hrs pa cell0
    go_wp2_with fail
    refine bodyPost_ret (v := .tuple #[.agg #[.slice (if 0 = 3 then some ⟨g, 0, none⟩ else a 0) (l 0) (c 0), .slice (if 1 = 3 then some ⟨g, 0, none⟩ else a 1) (l 1) (c 1), .slice (if 2 = 3 then some ⟨g, 0, none⟩ else a 2) (l 2) (c 2), .slice (if 3 = 3 then some ⟨g, 0, none⟩ else a 3) (l 3) (c 3), .int .i64 fu, .int .i64 lo, .int .i64 mo], .int .i64 0]) (by simp [results, Try.results91, go_sem, r0, r1, r2, r3, r4, r5, r6]) rfl ⟨?_, two_end HB.out ?_⟩
    · have ee := HK.out.symm.trans HA.out
      simp [ee]
    · repeat (refine Touch.setCell ?_ (by simp) _)
      exact Touch.refl _ _
set_option maxRecDepth 100000 in
set_option maxHeartbeats 8000000 in
theorem rspoil_yes (w : World) (O : Nat → Prop) (a : Nat → Option Addr) (l c : Nat → Nat) (es : Nat → List E) (m : MN) (d b i y : Int) (k : Nat) (q : Int) (p : Nat) (x : Ml) (q2 g : Nat) (h : DN w O a l c es m) (h4 : W4 d b k q) (hk4 : k < 4) (hO : ∀ g, O g → g < w.heap.size) (hi : -9223372036854775808 ≤ i ∧ i ≤ 9223372036854775807)
    (hp : (-1) % (l k : Int) = p) (hl2 : l k ≤ 128) (hx : (m.L k)[p]? = some x) (hx1 : 0 < x.1.length) (hx2 : x.1.length ≤ 1400) (hq2 : i % (x.1.length : Int) = q2) (ha : a k = some ⟨g, 0, none⟩) :
    Calls Try.prog 91 #[dnv a l c m.full m.long m.moved, .int .i64 d, .int .i64 b, .int .i64 i, .int .u8 y] w (DRes w O (m.put k ((m.L k).set p (x.1.set q2 (bits .xor .u8 (nth x.1 q2) y), x.2)), 0)) := by
  obtain ⟨e0, da, dc, he, hea, hev, hrd⟩ := h.got hk4 hx
  have hes := (h.ln k hk4).symm
  have hpl : p < l k := by rw [← hes]; exact (List.getElem?_eq_some_iff.1 he).1
  have hl : 0 < l k := by omega
  have pa' := fun W => rat_some W a l c m.full m.long m.moved d b (-1) k q h4 hl (by omega) (by omega)
  rw [hp] at pa'
  have hL := h.lst k hk4
  unfold Lst at hL
  rw [hes] at hL
  obtain ⟨dl, hdl⟩ : ∃ dl, dl = x.1.length := ⟨_, rfl⟩
  rw [← hdl] at hev hx1 hx2 hq2
  obtain ⟨cell0, hgl, hlck⟩ : w.cell? ⟨g, p * 2, none⟩ = some (.slice da dl dc) ∧ g < w.heap.size ∧ l k ≤ c k := by
    rcases hL.form with ⟨_, h0, _⟩ | ⟨g', cap, hv, hnc, hcm, _, hg, hc, _⟩
    · omega
    · rw [ha] at hv
      cases hv
      have g0 := flat_get (cs := ecs) (s := 2) (fun _ => rfl) (es k) he (i := 0) (by omega)
      have := hc (p * 2) _ g0
      rw [hev] at this
      exact ⟨this, hg, hnc⟩
  have pc := Lib.hid (fun W (hb : Below w.heap.size w W) => copied_all W (a k) (l k) (c k) (es k) hes (hL.below hb (fun g hg => hL.lt g hg)) (h.sls hk4) (by omega))
  have pr := Lib.hid (fun W => rround_any W i dl hx1 (by omega) hi)
  have pa := Lib.hid pa'
  have i1 : (0 : Int) ≤ (p : Int) := by omega
  have i2 : (p : Int) < (l k : Int) := by omega
  have j1 : (0 : Int) ≤ (q2 : Int) := by omega
  have j2 : (q2 : Int) < (dl : Int) := by rw [← hq2]; exact Int.emod_lt_of_pos _ (by omega)
  have hdl0 : ¬ dl = 0 := by omega
  have hdl1 : ((dl : Int) == 0) = false := by simp; omega
  obtain ⟨i0, hi, hz0, hz1, hz2⟩ := info_parts byte_info
  obtain ⟨bs, hbs⟩ : ∃ bs, bs = x.1 := ⟨_, rfl⟩
  obtain ⟨zv, hzv⟩ : ∃ zv, zv = nth bs q2 := ⟨_, rfl⟩
  have HH := Lib.hid h
  have HX := Lib.hid hx
  have HE := Lib.hid he
  have HEV := Lib.hid hev
  have HBS := Lib.hid hbs
  have HDL := Lib.hid hdl
  have HQ := Lib.hid hq2
  have HES := Lib.hid hes
  have HZV := Lib.hid hzv
  have HRD := Lib.hid (show Rd w O da dl bs by rw [hbs, hdl]; exact hrd)
  clear hL hes pa' hp he hev h hx hrd hbs hdl hq2 hzv
  unfold dnv nc at pa
  unfold dnv nc
  rcases h4 with ⟨rfl, rfl, rfl, rfl⟩ | ⟨rfl, rfl, rfl, rfl⟩ | ⟨rfl, rfl, rfl, rfl⟩ | ⟨rfl, rfl, rfl, rfl⟩
  · obtain ⟨ak, hak⟩ : ∃ ak, ak = a 0 := ⟨_, rfl⟩
    rw [← hak] at ha
    have HA := Lib.hid ha
    have HK := Lib.hid hak
    go_enter Try.func91, Try.ntmps91
    clear ha hak
    go_wp2_with fail
    refine (pa.out _).mono ?_
    rintro e w2 ⟨rfl, hB⟩
    obtain ⟨hbx, hrs, hB2⟩ := two_box hB
    have b0 : w2.cell? ⟨w.heap.size, 0, none⟩ = some (.slice (some ⟨g, 0, none⟩) (l 0) (c 0)) := (hbx.cell 0).trans (by show some (Value.slice (a 0) (l 0) (c 0)) = _; rw [← HK.out, HA.out])
    have c0 : w2.cell? ⟨g, p * 2, none⟩ = some (.slice da dl dc) := (hB2.cell (p := ⟨g, p * 2, none⟩) hgl).trans cell0
    have HB := Lib.hid hB2
    have HBX := Lib.hid hbx
    have HRS := Lib.hid hrs
    clear hB hB2 hbx hrs pa cell0
    go_wp2_with fail
    have pc2 := pc.out _ HB.out
    rw [← HK.out, HA.out] at pc2
    refine pc2.mono ?_
    clear pc2
    rintro e w3 ⟨ca, cc, rfl, hL3, hown3, hB3⟩
    unfold Lst at hL3
    obtain ⟨n, hn⟩ : ∃ n, n = (es 0).length := ⟨_, rfl⟩
    rw [← hn] at hL3 hown3 ⊢
    have hnl : n = l 0 := by rw [hn]; exact HES.out
    obtain ⟨cb, rfl⟩ : ∃ cb, ca = some ⟨cb, 0, none⟩ := by
      rcases hL3.form with ⟨_, h0, _⟩ | ⟨g', cap, hv, _⟩
      · omega
      · cases hv; exact ⟨_, rfl⟩
    have hcb := hown3 cb rfl
    have hcb3 := hL3.lt cb rfl
    have c1 : w3.cell? ⟨cb, p * 2, none⟩ = some (.slice da dl dc) := by
      rcases hL3.form with ⟨_, h0, _⟩ | ⟨g', cap, hv, _, _, _, _, hc, _⟩
      · omega
      · cases hv
        have g0 := flat_get (cs := ecs) (s := 2) (fun _ => rfl) (es 0) HE.out (i := 0) (by omega)
        have := hc (p * 2) _ g0
        rw [HEV.out] at this
        exact this
    have hrd3 := (HRD.out.below (HB.out.trans (hB3.mono HB.out.size))).row
    have SRC := Lib.hid (row_src (hrd3.below ((Below.refl _ w3).alloc (Nat.le_refl _) (.cells #[] 5))))
    have hz2w : w.heap.size + 2 ≤ w2.heap.size := by have := HRS.out.lt; omega
    have hcc : n ≤ cc := by
      obtain ⟨a', c', e', h', _⟩ := hL3.slice
      cases e'; exact h'
    have k1 : (p : Int) < (n : Int) := by rw [hnl]; exact i2
    have HL3 := Lib.hid hL3
    have HNL := Lib.hid hnl
    have HN := Lib.hid hn
    have HB3 := Lib.hid hB3
    clear hL3 hn hnl hrd3 hB3 hown3 pc b0 c0
    go_wp2_with (at_builtin; refine wpList_append_on _ (by rfl) _ _ 27 (by rfl) 5 i0 _ 1 1 Try.underlying27 hi hz0 hz1 hz2 (by rfl) (by omega) (.slice (some ⟨w3.heap.size, 0, none⟩) 0 0) 0 [] (by rfl) (On.empty w3 _ _) da dl dc (bs.map (.int .u8)) (by rfl) (by rw [List.length_map, HRD.out.1, Nat.mul_one]) SRC.out (one_u8 bs) (by simp only [maxLen]; omega) (by omega) ?_; intro v' w4 hon hg hv'; rw [Nat.zero_add, List.nil_append] at hon; obtain ⟨xa, xc, rfl, hxc, _⟩ := hon.slice; have HON := Lib.hid hon; have HG := Lib.hid hg; have HV := Lib.hid hv'; clear hon hg hv')
    refine (pr.out _).mono ?_
    rintro e w5 ⟨rfl, rfl⟩
    rw [HQ.out]
    obtain ⟨xg, rfl⟩ : ∃ xg, xa = some ⟨xg, 0, none⟩ := by
      rcases HON.out.form with ⟨_, h0, _⟩ | ⟨g', cap, hv, _⟩
      · omega
      · cases hv; exact ⟨_, rfl⟩
    have hxg : w3.heap.size ≤ xg := by
      rcases HV.out with e | e
      · simp [Value.ownBlock] at e; omega
      · simp [Value.ownBlock] at e; omega
    have hB34 : Below w3.heap.size w3 w4 := ((Below.refl _ w3).alloc (Nat.le_refl _) (.cells #[] 5)).trans ⟨HG.out.os, HG.out.tape, HG.out.output, HG.out.size, fun k' hk' => HG.out.block k' (by simp; omega) (fun e => by simp [Value.ownBlock] at e; omega)⟩
    have hzc : w4.cell? ⟨xg, q2, none⟩ = some (.int .u8 zv) := by
      rcases HON.out.form with ⟨_, h0, _⟩ | ⟨g', cap, hv, _, _, _, _, hc, _⟩
      · omega
      · cases hv
        refine hc q2 _ ?_
        have : q2 < bs.length := by rw [HRD.out.1]; omega
        rw [HZV.out]
        simp [nth, List.getD, this]
    have hzf : ∀ j, w4.frozen? ⟨xg, j, none⟩ = false := by
      rcases HON.out.form with ⟨_, h0, _⟩ | ⟨g', cap, hv, _, _, _, _, _, hf⟩
      · omega
      · cases hv; exact hf
    have c4 : w4.cell? ⟨cb, p * 2, none⟩ = some (.slice da dl dc) := (hB34.cell (p := ⟨cb, p * 2, none⟩) hcb3).trans c1
    have f4 : w4.frozen? ⟨cb, p * 2, none⟩ = false := by
      rcases (HL3.out.below hB34 (fun g hg => HL3.out.lt g hg)).form with ⟨_, h0, _⟩ | ⟨g', cap, hv, _, _, _, _, _, hf⟩
      · omega
      · cases hv; exact hf _
    have hbx := (HBX.out.below HB3.out HBX.out.lt).below hB34 (Nat.lt_of_lt_of_le HBX.out.lt HB3.out.size)
    have hrs := (HRS.out.below HB3.out HRS.out.lt).below hB34 (Nat.lt_of_lt_of_le HRS.out.lt HB3.out.size)
    have b0 := hbx.cell 0; have b1 := hbx.cell 1; have b2 := hbx.cell 2; have b3 := hbx.cell 3; have b4 := hbx.cell 4; have b5 := hbx.cell 5; have b6 := hbx.cell 6
    have r0 := hrs.cell 0; have r1 := hrs.cell 1; have r2 := hrs.cell 2; have r3 := hrs.cell 3; have r4 := hrs.cell 4; have r5 := hrs.cell 5; have r6 := hrs.cell 6
    have fb := hbx.frozen; have fr := hrs.frozen
    have HB34 := Lib.hid hB34
    have n1 : ¬ xg = cb := by omega
    have n2 : ¬ cb = xg := by omega
    have n3 : ¬ cb = w.heap.size := by omega
    have n4 : ¬ w.heap.size = cb := by omega
    have n5 : ¬ cb = w.heap.size + 1 := by omega
    have n6 : ¬ w.heap.size + 1 = cb := by omega
    have n7 : ¬ xg = w.heap.size := by have := HB3.out.size; omega
    have n8 : ¬ w.heap.size = xg := by have := HB3.out.size; omega
    have n9 : ¬ xg = w.heap.size + 1 := by have := HB3.out.size; omega
    have n0 : ¬ w.heap.size + 1 = xg := by have := HB3.out.size; omega
    have HXG := Lib.hid hxg
    have HXC := Lib.hid hxc
    clear hbx hrs hB34 c1 hxg pr hxc
    go_wp2_with fail
    refine bodyPost_ret (v := .tuple #[dnv (upd a 0 (some ⟨cb, 0, none⟩)) (upd l 0 n) (upd c 0 cc) m.full m.long m.moved, .int .i64 0]) (by simp [results, Try.results91, go_sem, dnv, nc, upd, r0, r1, r2, r3, r4, r5, r6, n0, n1, n2, n3, n4, n5, n6, n7, n8, n9]) rfl ?_
    have hd4 := HON.out
    rw [HBS.out, HDL.out] at hd4
    have hfin := fun Wf e hT he => rspoil_fin (w := w) (w3 := w3) (w4 := w4) (Wf := Wf) (q := q2) (z := bits .xor .u8 (nth x.1 q2) y) (e := e) HH.out hk4 hO HX.out (HB.out.trans (HB3.out.mono HB.out.size)) HN.out HL3.out (by omega) hcb3 HB34.out hd4 HXG.out hT he
    have hzv' : nth x.1 q2 = zv := by rw [HZV.out, HBS.out]
    rw [← HDL.out, hzv'] at hfin
    rw [hzv']
    refine hfin _ _ ?_ rfl
    iterate 8 (refine Touch.setCell ?_ (by simp) _)
    exact Touch.refl _ _
  · obtain ⟨ak, hak⟩ : ∃ ak, ak = a 1 := ⟨_, rfl⟩
    rw [← hak] at ha
    have HA := Lib.hid ha
    have HK := Lib.hid hak
    go_enter Try.func91, Try.ntmps91
    clear ha hak
    go_wp2_with fail
    refine (pa.out _).mono ?_
    rintro e w2 ⟨rfl, hB⟩
    obtain ⟨hbx, hrs, hB2⟩ := two_box hB
    have b1 : w2.cell? ⟨w.heap.size, 1, none⟩ = some (.slice (some ⟨g, 0, none⟩) (l 1) (c 1)) := (hbx.cell 1).trans (by show some (Value.slice (a 1) (l 1) (c 1)) = _; rw [← HK.out, HA.out])
    have c0 : w2.cell? ⟨g, p * 2, none⟩ = some (.slice da dl dc) := (hB2.cell (p := ⟨g, p * 2, none⟩) hgl).trans cell0
    have HB := Lib.hid hB2
    have HBX := Lib.hid hbx
    have HRS := Lib.hid hrs
    clear hB hB2 hbx hrs pa cell0
    go_wp2_with fail
    have pc2 := pc.out _ HB.out
    rw [← HK.out, HA.out] at pc2
    refine pc2.mono ?_
    clear pc2
    rintro e w3 ⟨ca, cc, rfl, hL3, hown3, hB3⟩
    unfold Lst at hL3
    obtain ⟨n, hn⟩ : ∃ n, n = (es 1).length := ⟨_, rfl⟩
    rw [← hn] at hL3 hown3 ⊢
    have hnl : n = l 1 := by rw [hn]; exact HES.out
    obtain ⟨cb, rfl⟩ : ∃ cb, ca = some ⟨cb, 0, none⟩ := by
      rcases hL3.form with ⟨_, h0, _⟩ | ⟨g', cap, hv, _⟩
      · omega
      · cases hv; exact ⟨_, rfl⟩
    have hcb := hown3 cb rfl
    have hcb3 := hL3.lt cb rfl
    have c1 : w3.cell? ⟨cb, p * 2, none⟩ = some (.slice da dl dc) := by
      rcases hL3.form with ⟨_, h0, _⟩ | ⟨g', cap, hv, _, _, _, _, hc, _⟩
      · omega
      · cases hv
        have g0 := flat_get (cs := ecs) (s := 2) (fun _ => rfl) (es 1) HE.out (i := 0) (by omega)
        have := hc (p * 2) _ g0
        rw [HEV.out] at this
        exact this
    have hrd3 := (HRD.out.below (HB.out.trans (hB3.mono HB.out.size))).row
    have SRC := Lib.hid (row_src (hrd3.below ((Below.refl _ w3).alloc (Nat.le_refl _) (.cells #[] 5))))
    have hz2w : w.heap.size + 2 ≤ w2.heap.size := by have := HRS.out.lt; omega
    have hcc : n ≤ cc := by
      obtain ⟨a', c', e', h', _⟩ := hL3.slice
      cases e'; exact h'
    have k1 : (p : Int) < (n : Int) := by rw [hnl]; exact i2
    have HL3 := Lib.hid hL3
    have HNL := Lib.hid hnl
    have HN := Lib.hid hn
    have HB3 := Lib.hid hB3
    clear hL3 hn hnl hrd3 hB3 hown3 pc b1 c0
    go_wp2_with (at_builtin; refine wpList_append_on _ (by rfl) _ _ 27 (by rfl) 5 i0 _ 1 1 Try.underlying27 hi hz0 hz1 hz2 (by rfl) (by omega) (.slice (some ⟨w3.heap.size, 0, none⟩) 0 0) 0 [] (by rfl) (On.empty w3 _ _) da dl dc (bs.map (.int .u8)) (by rfl) (by rw [List.length_map, HRD.out.1, Nat.mul_one]) SRC.out (one_u8 bs) (by simp only [maxLen]; omega) (by omega) ?_; intro v' w4 hon hg hv'; rw [Nat.zero_add, List.nil_append] at hon; obtain ⟨xa, xc, rfl, hxc, _⟩ := hon.slice; have HON := Lib.hid hon; have HG := Lib.hid hg; have HV := Lib.hid hv'; clear hon hg hv')
    refine (pr.out _).mono ?_
    rintro e w5 ⟨rfl, rfl⟩
    rw [HQ.out]
    obtain ⟨xg, rfl⟩ : ∃ xg, xa = some ⟨xg, 0, none⟩ := by
      rcases HON.out.form with ⟨_, h0, _⟩ | ⟨g', cap, hv, _⟩
      · omega
      · cases hv; exact ⟨_, rfl⟩
    have hxg : w3.heap.size ≤ xg := by
      rcases HV.out with e | e
      · simp [Value.ownBlock] at e; omega
      · simp [Value.ownBlock] at e; omega
    have hB34 : Below w3.heap.size w3 w4 := ((Below.refl _ w3).alloc (Nat.le_refl _) (.cells #[] 5)).trans ⟨HG.out.os, HG.out.tape, HG.out.output, HG.out.size, fun k' hk' => HG.out.block k' (by simp; omega) (fun e => by simp [Value.ownBlock] at e; omega)⟩
    have hzc : w4.cell? ⟨xg, q2, none⟩ = some (.int .u8 zv) := by
      rcases HON.out.form with ⟨_, h0, _⟩ | ⟨g', cap, hv, _, _, _, _, hc, _⟩
      · omega
      · cases hv
        refine hc q2 _ ?_
        have : q2 < bs.length := by rw [HRD.out.1]; omega
        rw [HZV.out]
        simp [nth, List.getD, this]
    have hzf : ∀ j, w4.frozen? ⟨xg, j, none⟩ = false := by
      rcases HON.out.form with ⟨_, h0, _⟩ | ⟨g', cap, hv, _, _, _, _, _, hf⟩
      · omega
      · cases hv; exact hf
    have c4 : w4.cell? ⟨cb, p * 2, none⟩ = some (.slice da dl dc) := (hB34.cell (p := ⟨cb, p * 2, none⟩) hcb3).trans c1
    have f4 : w4.frozen? ⟨cb, p * 2, none⟩ = false := by
      rcases (HL3.out.below hB34 (fun g hg => HL3.out.lt g hg)).form with ⟨_, h0, _⟩ | ⟨g', cap, hv, _, _, _, _, _, hf⟩
      · omega
      · cases hv; exact hf _
    have hbx := (HBX.out.below HB3.out HBX.out.lt).below hB34 (Nat.lt_of_lt_of_le HBX.out.lt HB3.out.size)
    have hrs := (HRS.out.below HB3.out HRS.out.lt).below hB34 (Nat.lt_of_lt_of_le HRS.out.lt HB3.out.size)
    have b0 := hbx.cell 0; have b1 := hbx.cell 1; have b2 := hbx.cell 2; have b3 := hbx.cell 3; have b4 := hbx.cell 4; have b5 := hbx.cell 5; have b6 := hbx.cell 6
    have r0 := hrs.cell 0; have r1 := hrs.cell 1; have r2 := hrs.cell 2; have r3 := hrs.cell 3; have r4 := hrs.cell 4; have r5 := hrs.cell 5; have r6 := hrs.cell 6
    have fb := hbx.frozen; have fr := hrs.frozen
    have HB34 := Lib.hid hB34
    have n1 : ¬ xg = cb := by omega
    have n2 : ¬ cb = xg := by omega
    have n3 : ¬ cb = w.heap.size := by omega
    have n4 : ¬ w.heap.size = cb := by omega
    have n5 : ¬ cb = w.heap.size + 1 := by omega
    have n6 : ¬ w.heap.size + 1 = cb := by omega
    have n7 : ¬ xg = w.heap.size := by have := HB3.out.size; omega
    have n8 : ¬ w.heap.size = xg := by have := HB3.out.size; omega
    have n9 : ¬ xg = w.heap.size + 1 := by have := HB3.out.size; omega
    have n0 : ¬ w.heap.size + 1 = xg := by have := HB3.out.size; omega
    have HXG := Lib.hid hxg
    have HXC := Lib.hid hxc
    clear hbx hrs hB34 c1 hxg pr hxc
    go_wp2_with fail
    refine bodyPost_ret (v := .tuple #[dnv (upd a 1 (some ⟨cb, 0, none⟩)) (upd l 1 n) (upd c 1 cc) m.full m.long m.moved, .int .i64 0]) (by simp [results, Try.results91, go_sem, dnv, nc, upd, r0, r1, r2, r3, r4, r5, r6, n0, n1, n2, n3, n4, n5, n6, n7, n8, n9]) rfl ?_
    have hd4 := HON.out
    rw [HBS.out, HDL.out] at hd4
    have hfin := fun Wf e hT he => rspoil_fin (w := w) (w3 := w3) (w4 := w4) (Wf := Wf) (q := q2) (z := bits .xor .u8 (nth x.1 q2) y) (e := e) HH.out hk4 hO HX.out (HB.out.trans (HB3.out.mono HB.out.size)) HN.out HL3.out (by omega) hcb3 HB34.out hd4 HXG.out hT he
    have hzv' : nth x.1 q2 = zv := by rw [HZV.out, HBS.out]
    rw [← HDL.out, hzv'] at hfin
    rw [hzv']
    refine hfin _ _ ?_ rfl
    iterate 8 (refine Touch.setCell ?_ (by simp) _)
    exact Touch.refl _ _
  · obtain ⟨ak, hak⟩ : ∃ ak, ak = a 2 := ⟨_, rfl⟩
    rw [← hak] at ha
    have HA := Lib.hid ha
    have HK := Lib.hid hak
    go_enter Try.func91, Try.ntmps91
    clear ha hak
    go_wp2_with fail
    refine (pa.out _).mono ?_
    rintro e w2 ⟨rfl, hB⟩
    obtain ⟨hbx, hrs, hB2⟩ := two_box hB
    have b2 : w2.cell? ⟨w.heap.size, 2, none⟩ = some (.slice (some ⟨g, 0, none⟩) (l 2) (c 2)) := (hbx.cell 2).trans (by show some (Value.slice (a 2) (l 2) (c 2)) = _; rw [← HK.out, HA.out])
    have c0 : w2.cell? ⟨g, p * 2, none⟩ = some (.slice da dl dc) := (hB2.cell (p := ⟨g, p * 2, none⟩) hgl).trans cell0
    have HB := Lib.hid hB2
    have HBX := Lib.hid hbx
    have HRS := Lib.hid hrs
    clear hB hB2 hbx hrs pa cell0
    go_wp2_with fail
    have pc2 := pc.out _ HB.out
    rw [← HK.out, HA.out] at pc2
    refine pc2.mono ?_
    clear pc2
    rintro e w3 ⟨ca, cc, rfl, hL3, hown3, hB3⟩
    unfold Lst at hL3
    obtain ⟨n, hn⟩ : ∃ n, n = (es 2).length := ⟨_, rfl⟩
    rw [← hn] at hL3 hown3 ⊢
    have hnl : n = l 2 := by rw [hn]; exact HES.out
    obtain ⟨cb, rfl⟩ : ∃ cb, ca = some ⟨cb, 0, none⟩ := by
      rcases hL3.form with ⟨_, h0, _⟩ | ⟨g', cap, hv, _⟩
      · omega
      · cases hv; exact ⟨_, rfl⟩
    have hcb := hown3 cb rfl
    have hcb3 := hL3.lt cb rfl
    have c1 : w3.cell? ⟨cb, p * 2, none⟩ = some (.slice da dl dc) := by
      rcases hL3.form with ⟨_, h0, _⟩ | ⟨g', cap, hv, _, _, _, _, hc, _⟩
      · omega
      · cases hv
        have g0 := flat_get (cs := ecs) (s := 2) (fun _ => rfl) (es 2) HE.out (i := 0) (by omega)
        have := hc (p * 2) _ g0
        rw [HEV.out] at this
        exact this
    have hrd3 := (HRD.out.below (HB.out.trans (hB3.mono HB.out.size))).row
    have SRC := Lib.hid (row_src (hrd3.below ((Below.refl _ w3).alloc (Nat.le_refl _) (.cells #[] 5))))
    have hz2w : w.heap.size + 2 ≤ w2.heap.size := by have := HRS.out.lt; omega
    have hcc : n ≤ cc := by
      obtain ⟨a', c', e', h', _⟩ := hL3.slice
      cases e'; exact h'
    have k1 : (p : Int) < (n : Int) := by rw [hnl]; exact i2
    have HL3 := Lib.hid hL3
    have HNL := Lib.hid hnl
    have HN := Lib.hid hn
    have HB3 := Lib.hid hB3
    clear hL3 hn hnl hrd3 hB3 hown3 pc b2 c0
    go_wp2_with (at_builtin; refine wpList_append_on _ (by rfl) _ _ 27 (by rfl) 5 i0 _ 1 1 Try.underlying27 hi hz0 hz1 hz2 (by rfl) (by omega) (.slice (some ⟨w3.heap.size, 0, none⟩) 0 0) 0 [] (by rfl) (On.empty w3 _ _) da dl dc (bs.map (.int .u8)) (by rfl) (by rw [List.length_map, HRD.out.1, Nat.mul_one]) SRC.out (one_u8 bs) (by simp only [maxLen]; omega) (by omega) ?_; intro v' w4 hon hg hv'; rw [Nat.zero_add, List.nil_append] at hon; obtain ⟨xa, xc, rfl, hxc, _⟩ := hon.slice; have HON := Lib.hid hon; have HG := Lib.hid hg; have HV := Lib.hid hv'; clear hon hg hv')
    refine (pr.out _).mono ?_
    rintro e w5 ⟨rfl, rfl⟩
    rw [HQ.out]
    obtain ⟨xg, rfl⟩ : ∃ xg, xa = some ⟨xg, 0, none⟩ := by
      rcases HON.out.form with ⟨_, h0, _⟩ | ⟨g', cap, hv, _⟩
      · omega
      · cases hv; exact ⟨_, rfl⟩
    have hxg : w3.heap.size ≤ xg := by
      rcases HV.out with e | e
      · simp [Value.ownBlock] at e; omega
      · simp [Value.ownBlock] at e; omega
    have hB34 : Below w3.heap.size w3 w4 := ((Below.refl _ w3).alloc (Nat.le_refl _) (.cells #[] 5)).trans ⟨HG.out.os, HG.out.tape, HG.out.output, HG.out.size, fun k' hk' => HG.out.block k' (by simp; omega) (fun e => by simp [Value.ownBlock] at e; omega)⟩
    have hzc : w4.cell? ⟨xg, q2, none⟩ = some (.int .u8 zv) := by
      rcases HON.out.form with ⟨_, h0, _⟩ | ⟨g', cap, hv, _, _, _, _, hc, _⟩
      · omega
      · cases hv
        refine hc q2 _ ?_
        have : q2 < bs.length := by rw [HRD.out.1]; omega
        rw [HZV.out]
        simp [nth, List.getD, this]
    have hzf : ∀ j, w4.frozen? ⟨xg, j, none⟩ = false := by
      rcases HON.out.form with ⟨_, h0, _⟩ | ⟨g', cap, hv, _, _, _, _, _, hf⟩
      · omega
      · cases hv; exact hf
    have c4 : w4.cell? ⟨cb, p * 2, none⟩ = some (.slice da dl dc) := (hB34.cell (p := ⟨cb, p * 2, none⟩) hcb3).trans c1
    have f4 : w4.frozen? ⟨cb, p * 2, none⟩ = false := by
      rcases (HL3.out.below hB34 (fun g hg => HL3.out.lt g hg)).form with ⟨_, h0, _⟩ | ⟨g', cap, hv, _, _, _, _, _, hf⟩
      · omega
      · cases hv; exact hf _
    have hbx := (HBX.out.below HB3.out HBX.out.lt).below hB34 (Nat.lt_of_lt_of_le HBX.out.lt HB3.out.size)
    have hrs := (HRS.out.below HB3.out HRS.out.lt).below hB34 (Nat.lt_of_lt_of_le HRS.out.lt HB3.out.size)
    have b0 := hbx.cell 0; have b1 := hbx.cell 1; have b2 := hbx.cell 2; have b3 := hbx.cell 3; have b4 := hbx.cell 4; have b5 := hbx.cell 5; have b6 := hbx.cell 6
    have r0 := hrs.cell 0; have r1 := hrs.cell 1; have r2 := hrs.cell 2; have r3 := hrs.cell 3; have r4 := hrs.cell 4; have r5 := hrs.cell 5; have r6 := hrs.cell 6
    have fb := hbx.frozen; have fr := hrs.frozen
    have HB34 := Lib.hid hB34
    have n1 : ¬ xg = cb := by omega
    have n2 : ¬ cb = xg := by omega
    have n3 : ¬ cb = w.heap.size := by omega
    have n4 : ¬ w.heap.size = cb := by omega
    have n5 : ¬ cb = w.heap.size + 1 := by omega
    have n6 : ¬ w.heap.size + 1 = cb := by omega
    have n7 : ¬ xg = w.heap.size := by have := HB3.out.size; omega
    have n8 : ¬ w.heap.size = xg := by have := HB3.out.size; omega
    have n9 : ¬ xg = w.heap.size + 1 := by have := HB3.out.size; omega
    have n0 : ¬ w.heap.size + 1 = xg := by have := HB3.out.size; omega
    have HXG := Lib.hid hxg
    have HXC := Lib.hid hxc
    clear hbx hrs hB34 c1 hxg pr hxc
    go_wp2_with fail
    refine bodyPost_ret (v := .tuple #[dnv (upd a 2 (some ⟨cb, 0, none⟩)) (upd l 2 n) (upd c 2 cc) m.full m.long m.moved, .int .i64 0]) (by simp [results, Try.results91, go_sem, dnv, nc, upd, r0, r1, r2, r3, r4, r5, r6, n0, n1, n2, n3, n4, n5, n6, n7, n8, n9]) rfl ?_
    have hd4 := HON.out
    rw [HBS.out, HDL.out] at hd4
    have hfin := fun Wf e hT he => rspoil_fin (w := w) (w3 := w3) (w4 := w4) (Wf := Wf) (q := q2) (z := bits .xor .u8 (nth x.1 q2) y) (e := e) HH.out hk4 hO HX.out (HB.out.trans (HB3.out.mono HB.out.size)) HN.out HL3.out (by omega) hcb3 HB34.out hd4 HXG.out hT he
    have hzv' : nth x.1 q2 = zv := by rw [HZV.out, HBS.out]
    rw [← HDL.out, hzv'] at hfin
    rw [hzv']
    refine hfin _ _ ?_ rfl
    iterate 8 (refine Touch.setCell ?_ (by simp) _)
    exact Touch.refl _ _
  · obtain ⟨ak, hak⟩ : ∃ ak, ak = a 3 := ⟨_, rfl⟩
    rw [← hak] at ha
    have HA := Lib.hid ha
    have HK := Lib.hid hak
    go_enter Try.func91, Try.ntmps91
    clear ha hak
    go_wp2_with fail
    refine (pa.out _).mono ?_
    rintro e w2 ⟨rfl, hB⟩
    obtain ⟨hbx, hrs, hB2⟩ := two_box hB
    have b3 : w2.cell? ⟨w.heap.size, 3, none⟩ = some (.slice (some ⟨g, 0, none⟩) (l 3) (c 3)) := (hbx.cell 3).trans (by show some (Value.slice (a 3) (l 3) (c 3)) = _; rw [← HK.out, HA.out])
    have c0 : w2.cell? ⟨g, p * 2, none⟩ = some (.slice da dl dc) := (hB2.cell (p := ⟨g, p * 2, none⟩) hgl).trans cell0
    have HB := Lib.hid hB2
    have HBX := Lib.hid hbx
    have HRS := Lib.hid hrs
    clear hB hB2 hbx hrs pa cell0
    go_wp2_with fail
    have pc2 := pc.out _ HB.out
    rw [← HK.out, HA.out] at pc2
    refine pc2.mono ?_
    clear pc2
    rintro e w3 ⟨ca, cc, rfl, hL3, hown3, hB3⟩
    unfold Lst at hL3
    obtain ⟨n, hn⟩ : ∃ n, n = (es 3).length := ⟨_, rfl⟩
    rw [← hn] at hL3 hown3 ⊢
    have hnl : n = l 3 := by rw [hn]; exact HES.out
    obtain ⟨cb, rfl⟩ : ∃ cb, ca = some ⟨cb, 0, none⟩ := by
      rcases hL3.form with ⟨_, h0, _⟩ | ⟨g', cap, hv, _⟩
      · omega
      · cases hv; exact ⟨_, rfl⟩
    have hcb := hown3 cb rfl
    have hcb3 := hL3.lt cb rfl
    have c1 : w3.cell? ⟨cb, p * 2, none⟩ = some (.slice da dl dc) := by
      rcases hL3.form with ⟨_, h0, _⟩ | ⟨g', cap, hv, _, _, _, _, hc, _⟩
      · omega
      · cases hv
        have g0 := flat_get (cs := ecs) (s := 2) (fun _ => rfl) (es 3) HE.out (i := 0) (by omega)
        have := hc (p * 2) _ g0
        rw [HEV.out] at this
        exact this
    have hrd3 := (HRD.out.below (HB.out.trans (hB3.mono HB.out.size))).row
    have SRC := Lib.hid (row_src (hrd3.below ((Below.refl _ w3).alloc (Nat.le_refl _) (.cells #[] 5))))
    have hz2w : w.heap.size + 2 ≤ w2.heap.size := by have := HRS.out.lt; omega
    have hcc : n ≤ cc := by
      obtain ⟨a', c', e', h', _⟩ := hL3.slice
      cases e'; exact h'
    have k1 : (p : Int) < (n : Int) := by rw [hnl]; exact i2
    have HL3 := Lib.hid hL3
    have HNL := Lib.hid hnl
    have HN := Lib.hid hn
    have HB3 := Lib.hid hB3
    clear hL3 hn hnl hrd3 hB3 hown3 pc b3 c0
    go_wp2_with (at_builtin; refine wpList_append_on _ (by rfl) _ _ 27 (by rfl) 5 i0 _ 1 1 Try.underlying27 hi hz0 hz1 hz2 (by rfl) (by omega) (.slice (some ⟨w3.heap.size, 0, none⟩) 0 0) 0 [] (by rfl) (On.empty w3 _ _) da dl dc (bs.map (.int .u8)) (by rfl) (by rw [List.length_map, HRD.out.1, Nat.mul_one]) SRC.out (one_u8 bs) (by simp only [maxLen]; omega) (by omega) ?_; intro v' w4 hon hg hv'; rw [Nat.zero_add, List.nil_append] at hon; obtain ⟨xa, xc, rfl, hxc, _⟩ := hon.slice; have HON := Lib.hid hon; have HG := Lib.hid hg; have HV := Lib.hid hv'; clear hon hg hv')
    refine (pr.out _).mono ?_
    rintro e w5 ⟨rfl, rfl⟩
    rw [HQ.out]
    obtain ⟨xg, rfl⟩ : ∃ xg, xa = some ⟨xg, 0, none⟩ := by
      rcases HON.out.form with ⟨_, h0, _⟩ | ⟨g', cap, hv, _⟩
      · omega
      · cases hv; exact ⟨_, rfl⟩
    have hxg : w3.heap.size ≤ xg := by
      rcases HV.out with e | e
      · simp [Value.ownBlock] at e; omega
      · simp [Value.ownBlock] at e; omega
    have hB34 : Below w3.heap.size w3 w4 := ((Below.refl _ w3).alloc (Nat.le_refl _) (.cells #[] 5)).trans ⟨HG.out.os, HG.out.tape, HG.out.output, HG.out.size, fun k' hk' => HG.out.block k' (by simp; omega) (fun e => by simp [Value.ownBlock] at e; omega)⟩
    have hzc : w4.cell? ⟨xg, q2, none⟩ = some (.int .u8 zv) := by
      rcases HON.out.form with ⟨_, h0, _⟩ | ⟨g', cap, hv, _, _, _, _, hc, _⟩
      · omega
      · cases hv
        refine hc q2 _ ?_
        have : q2 < bs.length := by rw [HRD.out.1]; omega
        rw [HZV.out]
        simp [nth, List.getD, this]
    have hzf : ∀ j, w4.frozen? ⟨xg, j, none⟩ = false := by
      rcases HON.out.form with ⟨_, h0, _⟩ | ⟨g', cap, hv, _, _, _, _, _, hf⟩
      · omega
      · cases hv; exact hf
    have c4 : w4.cell? ⟨cb, p * 2, none⟩ = some (.slice da dl dc) := (hB34.cell (p := ⟨cb, p * 2, none⟩) hcb3).trans c1
    have f4 : w4.frozen? ⟨cb, p * 2, none⟩ = false := by
      rcases (HL3.out.below hB34 (fun g hg => HL3.out.lt g hg)).form with ⟨_, h0, _⟩ | ⟨g', cap, hv, _, _, _, _, _, hf⟩
      · omega
      · cases hv; exact hf _
    have hbx := (HBX.out.below HB3.out HBX.out.lt).below hB34 (Nat.lt_of_lt_of_le HBX.out.lt HB3.out.size)
    have hrs := (HRS.out.below HB3.out HRS.out.lt).below hB34 (Nat.lt_of_lt_of_le HRS.out.lt HB3.out.size)
    have b0 := hbx.cell 0; have b1 := hbx.cell 1; have b2 := hbx.cell 2; have b3 := hbx.cell 3; have b4 := hbx.cell 4; have b5 := hbx.cell 5; have b6 := hbx.cell 6
    have r0 := hrs.cell 0; have r1 := hrs.cell 1; have r2 := hrs.cell 2; have r3 := hrs.cell 3; have r4 := hrs.cell 4; have r5 := hrs.cell 5; have r6 := hrs.cell 6
    have fb := hbx.frozen; have fr := hrs.frozen
    have HB34 := Lib.hid hB34
    have n1 : ¬ xg = cb := by omega
    have n2 : ¬ cb = xg := by omega
    have n3 : ¬ cb = w.heap.size := by omega
    have n4 : ¬ w.heap.size = cb := by omega
    have n5 : ¬ cb = w.heap.size + 1 := by omega
    have n6 : ¬ w.heap.size + 1 = cb := by omega
    have n7 : ¬ xg = w.heap.size := by have := HB3.out.size; omega
    have n8 : ¬ w.heap.size = xg := by have := HB3.out.size; omega
    have n9 : ¬ xg = w.heap.size + 1 := by have := HB3.out.size; omega
    have n0 : ¬ w.heap.size + 1 = xg := by have := HB3.out.size; omega
    have HXG := Lib.hid hxg
    have HXC := Lib.hid hxc
    clear hbx hrs hB34 c1 hxg pr hxc
    go_wp2_with fail
    refine bodyPost_ret (v := .tuple #[dnv (upd a 3 (some ⟨cb, 0, none⟩)) (upd l 3 n) (upd c 3 cc) m.full m.long m.moved, .int .i64 0]) (by simp [results, Try.results91, go_sem, dnv, nc, upd, r0, r1, r2, r3, r4, r5, r6, n0, n1, n2, n3, n4, n5, n6, n7, n8, n9]) rfl ?_
    have hd4 := HON.out
    rw [HBS.out, HDL.out] at hd4
    have hfin := fun Wf e hT he => rspoil_fin (w := w) (w3 := w3) (w4 := w4) (Wf := Wf) (q := q2) (z := bits .xor .u8 (nth x.1 q2) y) (e := e) HH.out hk4 hO HX.out (HB.out.trans (HB3.out.mono HB.out.size)) HN.out HL3.out (by omega) hcb3 HB34.out hd4 HXG.out hT he
    have hzv' : nth x.1 q2 = zv := by rw [HZV.out, HBS.out]
    rw [← HDL.out, hzv'] at hfin
    rw [hzv']
    refine hfin _ _ ?_ rfl
    iterate 8 (refine Touch.setCell ?_ (by simp) _)
    exact Touch.refl _ _
end Go.Proofs.Ytmceaffoffemlaa.Netw
