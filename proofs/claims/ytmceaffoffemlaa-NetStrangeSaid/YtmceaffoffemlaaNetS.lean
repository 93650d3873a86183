/-
  The document's net: Move, Double, and all of any numbers. Conditions: the lists lie in memory; counts below a million.
-/
import Derived.Test.YtmceaffoffemlaaNetR
namespace Go.Proofs.Ytmceaffoffemlaa.Netw
open Go.RowKit
set_option linter.all false

set_option maxRecDepth 100000 in
set_option maxHeartbeats 4000000 in
theorem rmove_ok (w : World) (a : Nat → Option Addr) (l c : Nat → Nat) (fu lo mo d b i : Int) (k : Nat) (q : Int) (p : Nat) (es : List E) (e0 : E) (da : Option Addr) (dl dc g : Nat) (h : W4 d b k q) (hi : -9223372036854775808 ≤ i ∧ i ≤ 9223372036854775807) (hp : i % (l k : Int) = p) (hl : 0 < l k) (hl2 : l k ≤ 128)
    (hL : Lst w (.slice (a k) (l k) (c k)) es) (hes : es.length = l k) (hs : Sls es) (he : es[p]? = some e0) (hev : e0.1 = .slice da dl dc) (hmo : 0 ≤ mo) (hmo2 : mo ≤ 1000000) (ha : a k = some ⟨g, 0, none⟩) :
    Calls Try.prog 88 #[dnv a l c fu lo mo, .int .i64 d, .int .i64 b, .int .i64 i] w (RPut w a l c fu lo (mo + 1) k (es.eraseIdx p) (fun v => .tuple #[v, .slice da dl dc, .int .i64 0])) := by
  have pa' := fun W => rat_some W a l c fu lo mo d b i k q h hl (by omega) hi
  rw [hp] at pa'
  have hpl : p < l k := by rw [← hes]; exact (List.getElem?_eq_some_iff.1 he).1
  unfold Lst at hL
  rw [hes] at hL
  obtain ⟨cell0, hgl, hlck⟩ : w.cell? ⟨g, p * 2, none⟩ = some (.slice da dl dc) ∧ g < w.heap.size ∧ l k ≤ c k := by
    rcases hL.form with ⟨_, h0, _⟩ | ⟨g', cap, hv, hnc, hcm, _, hg, hc, _⟩
    · omega
    · rw [ha] at hv
      cases hv
      have g0 := flat_get (cs := ecs) (s := 2) (fun _ => rfl) es he (i := 0) (by omega)
      have := hc (p * 2) _ g0
      rw [hev] at this
      exact ⟨this, hg, hnc⟩
  have pc := Lib.hid (fun W (hb : Below w.heap.size w W) => copied_any W (a k) (l k) (c k) es (p : Int) p hes (hL.below hb (fun g hg => hL.lt g hg)) hs (by omega) (fun i _ => by omega))
  have pa := Lib.hid pa'
  have HES := Lib.hid hes
  have i1 : (0 : Int) ≤ (p : Int) := by omega
  have i2 : (p : Int) < (l k : Int) := by omega
  clear hL hes hs pa' hp he hev
  unfold dnv nc at pa
  unfold dnv nc
  rcases h with ⟨rfl, rfl, rfl, rfl⟩ | ⟨rfl, rfl, rfl, rfl⟩ | ⟨rfl, rfl, rfl, rfl⟩ | ⟨rfl, rfl, rfl, rfl⟩
  · obtain ⟨ak, hak⟩ : ∃ ak, ak = a 0 := ⟨_, rfl⟩
    rw [← hak] at ha
    have HA := Lib.hid ha
    have HK := Lib.hid hak
    go_enter Try.func88, Try.ntmps88
    clear ha hak
    go_wp2_with fail
    refine (pa.out _).mono ?_
    rintro e w2 ⟨rfl, hB⟩
    obtain ⟨hbx, hrs, hB2⟩ := two_box hB
    have b0 : w2.cell? ⟨w.heap.size, 0, none⟩ = some (.slice (some ⟨g, 0, none⟩) (l 0) (c 0)) := (hbx.cell 0).trans (by show some (Value.slice (a 0) (l 0) (c 0)) = _; rw [← HK.out, HA.out])
    have c0 : w2.cell? ⟨g, p * 2, none⟩ = some (.slice da dl dc) := (hB2.cell (p := ⟨g, p * 2, none⟩) hgl).trans cell0
    have HBX := Lib.hid hbx
    have HRS := Lib.hid hrs
    have HB := Lib.hid hB2
    clear hB hB2 hbx hrs pa cell0
    go_wp2_with fail
    have pc2 := pc.out _ HB.out
    rw [← HK.out, HA.out] at pc2
    refine pc2.mono ?_
    clear pc2
    rintro e w3 ⟨xa, xc, rfl, hL3, hown3, hB3⟩
    obtain ⟨n, hn⟩ : ∃ n, n = (es.eraseIdx p).length := ⟨_, rfl⟩
    rw [← hn] at hL3 hown3 ⊢
    have hbx := HBX.out.below hB3 HBX.out.lt
    have hrs := HRS.out.below hB3 HRS.out.lt
    clear b0 c0
    have b0 := hbx.cell 0; have b1 := hbx.cell 1; have b2 := hbx.cell 2; have b3 := hbx.cell 3; have b4 := hbx.cell 4; have b5 := hbx.cell 5; have b6 := hbx.cell 6
    have r0 := hrs.cell 0; have r1 := hrs.cell 1; have r2 := hrs.cell 2; have r3 := hrs.cell 3; have r4 := hrs.cell 4; have r5 := hrs.cell 5; have r6 := hrs.cell 6
    have fb := hbx.frozen; have fr := hrs.frozen
    have HN := Lib.hid hn
    have HL3 := Lib.hid hL3
    have HO3 := Lib.hid (show ∀ g, (Value.slice xa n xc).ownBlock = some g → w.heap.size + 2 ≤ g from fun g hg => by have := hown3 g hg; have := HRS.out.lt; omega)
    have HB3 := Lib.hid (HB.out.trans (hB3.mono HB.out.size))
    clear hbx hrs hB3 hL3 hown3 hn pc
    go_wp2_with fail
    refine bodyPost_ret (v := .tuple #[dnv (upd a 0 xa) (upd l 0 n) (upd c 0 xc) fu lo (mo + 1), .slice da dl dc, .int .i64 0]) (by simp [results, Try.results88, go_sem, dnv, nc, upd, r0, r1, r2, r3, r4, r5, r6]) rfl ?_
    have hL4 := HL3.out
    have hO4 := HO3.out
    rw [HN.out] at hL4 hO4 ⊢
    refine rput_fin HB3.out hL4 hO4 ?_ rfl
    repeat (refine Touch.setCell ?_ (by simp) _)
    exact Touch.refl _ _
  · obtain ⟨ak, hak⟩ : ∃ ak, ak = a 1 := ⟨_, rfl⟩
    rw [← hak] at ha
    have HA := Lib.hid ha
    have HK := Lib.hid hak
    go_enter Try.func88, Try.ntmps88
    clear ha hak
    go_wp2_with fail
    refine (pa.out _).mono ?_
    rintro e w2 ⟨rfl, hB⟩
    obtain ⟨hbx, hrs, hB2⟩ := two_box hB
    have b0 : w2.cell? ⟨w.heap.size, 1, none⟩ = some (.slice (some ⟨g, 0, none⟩) (l 1) (c 1)) := (hbx.cell 1).trans (by show some (Value.slice (a 1) (l 1) (c 1)) = _; rw [← HK.out, HA.out])
    have c0 : w2.cell? ⟨g, p * 2, none⟩ = some (.slice da dl dc) := (hB2.cell (p := ⟨g, p * 2, none⟩) hgl).trans cell0
    have HBX := Lib.hid hbx
    have HRS := Lib.hid hrs
    have HB := Lib.hid hB2
    clear hB hB2 hbx hrs pa cell0
    go_wp2_with fail
    have pc2 := pc.out _ HB.out
    rw [← HK.out, HA.out] at pc2
    refine pc2.mono ?_
    clear pc2
    rintro e w3 ⟨xa, xc, rfl, hL3, hown3, hB3⟩
    obtain ⟨n, hn⟩ : ∃ n, n = (es.eraseIdx p).length := ⟨_, rfl⟩
    rw [← hn] at hL3 hown3 ⊢
    have hbx := HBX.out.below hB3 HBX.out.lt
    have hrs := HRS.out.below hB3 HRS.out.lt
    clear b0 c0
    have b0 := hbx.cell 0; have b1 := hbx.cell 1; have b2 := hbx.cell 2; have b3 := hbx.cell 3; have b4 := hbx.cell 4; have b5 := hbx.cell 5; have b6 := hbx.cell 6
    have r0 := hrs.cell 0; have r1 := hrs.cell 1; have r2 := hrs.cell 2; have r3 := hrs.cell 3; have r4 := hrs.cell 4; have r5 := hrs.cell 5; have r6 := hrs.cell 6
    have fb := hbx.frozen; have fr := hrs.frozen
    have HN := Lib.hid hn
    have HL3 := Lib.hid hL3
    have HO3 := Lib.hid (show ∀ g, (Value.slice xa n xc).ownBlock = some g → w.heap.size + 2 ≤ g from fun g hg => by have := hown3 g hg; have := HRS.out.lt; omega)
    have HB3 := Lib.hid (HB.out.trans (hB3.mono HB.out.size))
    clear hbx hrs hB3 hL3 hown3 hn pc
    go_wp2_with fail
    refine bodyPost_ret (v := .tuple #[dnv (upd a 1 xa) (upd l 1 n) (upd c 1 xc) fu lo (mo + 1), .slice da dl dc, .int .i64 0]) (by simp [results, Try.results88, go_sem, dnv, nc, upd, r0, r1, r2, r3, r4, r5, r6]) rfl ?_
    have hL4 := HL3.out
    have hO4 := HO3.out
    rw [HN.out] at hL4 hO4 ⊢
    refine rput_fin HB3.out hL4 hO4 ?_ rfl
    repeat (refine Touch.setCell ?_ (by simp) _)
    exact Touch.refl _ _
  · obtain ⟨ak, hak⟩ : ∃ ak, ak = a 2 := ⟨_, rfl⟩
    rw [← hak] at ha
    have HA := Lib.hid ha
    have HK := Lib.hid hak
    go_enter Try.func88, Try.ntmps88
    clear ha hak
    go_wp2_with fail
    refine (pa.out _).mono ?_
    rintro e w2 ⟨rfl, hB⟩
    obtain ⟨hbx, hrs, hB2⟩ := two_box hB
    have b0 : w2.cell? ⟨w.heap.size, 2, none⟩ = some (.slice (some ⟨g, 0, none⟩) (l 2) (c 2)) := (hbx.cell 2).trans (by show some (Value.slice (a 2) (l 2) (c 2)) = _; rw [← HK.out, HA.out])
    have c0 : w2.cell? ⟨g, p * 2, none⟩ = some (.slice da dl dc) := (hB2.cell (p := ⟨g, p * 2, none⟩) hgl).trans cell0
    have HBX := Lib.hid hbx
    have HRS := Lib.hid hrs
    have HB := Lib.hid hB2
    clear hB hB2 hbx hrs pa cell0
    go_wp2_with fail
    have pc2 := pc.out _ HB.out
    rw [← HK.out, HA.out] at pc2
    refine pc2.mono ?_
    clear pc2
    rintro e w3 ⟨xa, xc, rfl, hL3, hown3, hB3⟩
    obtain ⟨n, hn⟩ : ∃ n, n = (es.eraseIdx p).length := ⟨_, rfl⟩
    rw [← hn] at hL3 hown3 ⊢
    have hbx := HBX.out.below hB3 HBX.out.lt
    have hrs := HRS.out.below hB3 HRS.out.lt
    clear b0 c0
    have b0 := hbx.cell 0; have b1 := hbx.cell 1; have b2 := hbx.cell 2; have b3 := hbx.cell 3; have b4 := hbx.cell 4; have b5 := hbx.cell 5; have b6 := hbx.cell 6
    have r0 := hrs.cell 0; have r1 := hrs.cell 1; have r2 := hrs.cell 2; have r3 := hrs.cell 3; have r4 := hrs.cell 4; have r5 := hrs.cell 5; have r6 := hrs.cell 6
    have fb := hbx.frozen; have fr := hrs.frozen
    have HN := Lib.hid hn
    have HL3 := Lib.hid hL3
    have HO3 := Lib.hid (show ∀ g, (Value.slice xa n xc).ownBlock = some g → w.heap.size + 2 ≤ g from fun g hg => by have := hown3 g hg; have := HRS.out.lt; omega)
    have HB3 := Lib.hid (HB.out.trans (hB3.mono HB.out.size))
    clear hbx hrs hB3 hL3 hown3 hn pc
    go_wp2_with fail
    refine bodyPost_ret (v := .tuple #[dnv (upd a 2 xa) (upd l 2 n) (upd c 2 xc) fu lo (mo + 1), .slice da dl dc, .int .i64 0]) (by simp [results, Try.results88, go_sem, dnv, nc, upd, r0, r1, r2, r3, r4, r5, r6]) rfl ?_
    have hL4 := HL3.out
    have hO4 := HO3.out
    rw [HN.out] at hL4 hO4 ⊢
    refine rput_fin HB3.out hL4 hO4 ?_ rfl
    repeat (refine Touch.setCell ?_ (by simp) _)
    exact Touch.refl _ _
  · obtain ⟨ak, hak⟩ : ∃ ak, ak = a 3 := ⟨_, rfl⟩
    rw [← hak] at ha
    have HA := Lib.hid ha
    have HK := Lib.hid hak
    go_enter Try.func88, Try.ntmps88
    clear ha hak
    go_wp2_with fail
    refine (pa.out _).mono ?_
    rintro e w2 ⟨rfl, hB⟩
    obtain ⟨hbx, hrs, hB2⟩ := two_box hB
    have b0 : w2.cell? ⟨w.heap.size, 3, none⟩ = some (.slice (some ⟨g, 0, none⟩) (l 3) (c 3)) := (hbx.cell 3).trans (by show some (Value.slice (a 3) (l 3) (c 3)) = _; rw [← HK.out, HA.out])
    have c0 : w2.cell? ⟨g, p * 2, none⟩ = some (.slice da dl dc) := (hB2.cell (p := ⟨g, p * 2, none⟩) hgl).trans cell0
    have HBX := Lib.hid hbx
    have HRS := Lib.hid hrs
    have HB := Lib.hid hB2
    clear hB hB2 hbx hrs pa cell0
    go_wp2_with fail
    have pc2 := pc.out _ HB.out
    rw [← HK.out, HA.out] at pc2
    refine pc2.mono ?_
    clear pc2
    rintro e w3 ⟨xa, xc, rfl, hL3, hown3, hB3⟩
    obtain ⟨n, hn⟩ : ∃ n, n = (es.eraseIdx p).length := ⟨_, rfl⟩
    rw [← hn] at hL3 hown3 ⊢
    have hbx := HBX.out.below hB3 HBX.out.lt
    have hrs := HRS.out.below hB3 HRS.out.lt
    clear b0 c0
    have b0 := hbx.cell 0; have b1 := hbx.cell 1; have b2 := hbx.cell 2; have b3 := hbx.cell 3; have b4 := hbx.cell 4; have b5 := hbx.cell 5; have b6 := hbx.cell 6
    have r0 := hrs.cell 0; have r1 := hrs.cell 1; have r2 := hrs.cell 2; have r3 := hrs.cell 3; have r4 := hrs.cell 4; have r5 := hrs.cell 5; have r6 := hrs.cell 6
    have fb := hbx.frozen; have fr := hrs.frozen
    have HN := Lib.hid hn
    have HL3 := Lib.hid hL3
    have HO3 := Lib.hid (show ∀ g, (Value.slice xa n xc).ownBlock = some g → w.heap.size + 2 ≤ g from fun g hg => by have := hown3 g hg; have := HRS.out.lt; omega)
    have HB3 := Lib.hid (HB.out.trans (hB3.mono HB.out.size))
    clear hbx hrs hB3 hL3 hown3 hn pc
    go_wp2_with fail
    refine bodyPost_ret (v := .tuple #[dnv (upd a 3 xa) (upd l 3 n) (upd c 3 xc) fu lo (mo + 1), .slice da dl dc, .int .i64 0]) (by simp [results, Try.results88, go_sem, dnv, nc, upd, r0, r1, r2, r3, r4, r5, r6]) rfl ?_
    have hL4 := HL3.out
    have hO4 := HO3.out
    rw [HN.out] at hL4 hO4 ⊢
    refine rput_fin HB3.out hL4 hO4 ?_ rfl
    repeat (refine Touch.setCell ?_ (by simp) _)
    exact Touch.refl _ _
theorem double_fin {w w2 w3 W : World} {O : Nat → Prop} {a : Nat → Option Addr} {l c : Nat → Nat} {es : Nat → List E} {r : MN × Int} {e : Ending} (hD : DN w3 (fun g => O g ∨ g = w.heap.size + 1) a l c es r.1) (hB2 : Below w.heap.size w w2) (hB3 : Below w2.heap.size w2 w3)
    (he : e = .returned (.tuple #[dnv a l c r.1.full r.1.long r.1.moved, .int .i64 r.2])) (hT : Touch (fun g => g = w.heap.size + 1) w3 W) : DRes w O r e W :=
  ⟨a, l, c, es, he, hD.go (hT.mono fun g hg => .inl (.inr hg)) (fun g hg => .inl (.inl hg)), (hB2.trans (hB3.mono hB2.size)).trans (hT.below (Nat.le_trans hB2.size hB3.size) (fun k hk => by omega))⟩
set_option maxRecDepth 100000 in
set_option maxHeartbeats 4000000 in
theorem rdouble_yes (w : World) (O : Nat → Prop) (a : Nat → Option Addr) (l c : Nat → Nat) (fu lo mo d b i : Int) (k : Nat) (q : Int) (p : Nat) (es : List E) (e0 : E) (da : Option Addr) (dl dc g : Nat) (r : MN × Int) (h : W4 d b k q) (hi : -9223372036854775808 ≤ i ∧ i ≤ 9223372036854775807) (hp : i % (l k : Int) = p) (hl : 0 < l k) (hl2 : l k ≤ 128)
    (hL : Lst w (.slice (a k) (l k) (c k)) es) (hes : es.length = l k) (he : es[p]? = some e0) (hev : e0.1 = .slice da dl dc) (ha : a k = some ⟨g, 0, none⟩)
    (hS : ∀ W, Below w.heap.size w W → w.heap.size + 2 ≤ W.heap.size → Calls Try.prog 87 #[dnv a l c fu lo mo, .int .i64 d, .int .i64 b, .slice da dl dc] W (DRes W (fun g => O g ∨ g = w.heap.size + 1) r)) :
    Calls Try.prog 90 #[dnv a l c fu lo mo, .int .i64 d, .int .i64 b, .int .i64 i] w (DRes w O r) := by
  have pa' := fun W => rat_some W a l c fu lo mo d b i k q h hl (by omega) hi
  rw [hp] at pa'
  have hpl : p < l k := by rw [← hes]; exact (List.getElem?_eq_some_iff.1 he).1
  unfold Lst at hL
  rw [hes] at hL
  obtain ⟨cell0, hgl, hlck⟩ : w.cell? ⟨g, p * 2, none⟩ = some (.slice da dl dc) ∧ g < w.heap.size ∧ l k ≤ c k := by
    rcases hL.form with ⟨_, h0, _⟩ | ⟨g', cap, hv, hnc, hcm, _, hg, hc, _⟩
    · omega
    · rw [ha] at hv
      cases hv
      have g0 := flat_get (cs := ecs) (s := 2) (fun _ => rfl) es he (i := 0) (by omega)
      have := hc (p * 2) _ g0
      rw [hev] at this
      exact ⟨this, hg, hnc⟩
  have pc := Lib.hid hS
  have pa := Lib.hid pa'
  have i1 : (0 : Int) ≤ (p : Int) := by omega
  have i2 : (p : Int) < (l k : Int) := by omega
  clear hL hes pa' hp he hev hS
  unfold dnv nc at pa pc
  unfold dnv nc
  rcases h with ⟨rfl, rfl, rfl, rfl⟩ | ⟨rfl, rfl, rfl, rfl⟩ | ⟨rfl, rfl, rfl, rfl⟩ | ⟨rfl, rfl, rfl, rfl⟩
  · obtain ⟨ak, hak⟩ : ∃ ak, ak = a 0 := ⟨_, rfl⟩
    rw [← hak] at ha
    have HA := Lib.hid ha
    have HK := Lib.hid hak
    go_enter Try.func90, Try.ntmps90
    clear ha hak
    go_wp2_with fail
    refine (pa.out _).mono ?_
    rintro e w2 ⟨rfl, hB⟩
    obtain ⟨hbx, hrs, hB2⟩ := two_box hB
    have b0 := hbx.cell 0; have b1 := hbx.cell 1; have b2 := hbx.cell 2; have b3 := hbx.cell 3; have b4 := hbx.cell 4; have b5 := hbx.cell 5; have b6 := hbx.cell 6
    clear b0
    have b0 : w2.cell? ⟨w.heap.size, 0, none⟩ = some (.slice (some ⟨g, 0, none⟩) (l 0) (c 0)) := (hbx.cell 0).trans (by show some (Value.slice (a 0) (l 0) (c 0)) = _; rw [← HK.out, HA.out])
    have c0 : w2.cell? ⟨g, p * 2, none⟩ = some (.slice da dl dc) := (hB2.cell (p := ⟨g, p * 2, none⟩) hgl).trans cell0
    have HB := Lib.hid hB2
    have HRS := Lib.hid hrs
    have hz2 : w.heap.size + 2 ≤ w2.heap.size := by have := hrs.lt; omega
    have pc2 := pc.out w2.drew (below_drewN HB.out 1) hz2
    rw [← HK.out, HA.out] at pc2
    have PC := Lib.hid pc2
    clear hB hB2 hbx hrs pa cell0 pc2 pc
    go_upto_region 4 with fail
    go_region_with (first | (go_at_call 87; refine PC.out.mono ?_; rintro e w3 ⟨xa, xl, xc, xes, rfl, hD, hB3'⟩; have hB3 : Below w2.heap.size w2 w3 := ⟨hB3'.os, hB3'.tape, hB3'.output, hB3'.size, hB3'.block⟩; clear hB3'; have hrs3 := HRS.out.below hB3 HRS.out.lt; have r0 := hrs3.cell 0; have r1 := hrs3.cell 1; have r2 := hrs3.cell 2; have r3 := hrs3.cell 3; have r4 := hrs3.cell 4; have r5 := hrs3.cell 5; have r6 := hrs3.cell 6; have fr := hrs3.frozen; have HD := Lib.hid hD; have HB3 := Lib.hid hB3; clear hD hB3 hrs3; unfold dnv nc))
    all_goals
      go_wp2_with fail
      refine bodyPost_ret (v := .tuple #[.agg (nvc xa xl xc r.1.full r.1.long r.1.moved), .int .i64 r.2]) (by simp [results, Try.results90, go_sem, nvc, r0, r1, r2, r3, r4, r5, r6]) rfl ?_
      refine double_fin HD.out HB.out HB3.out rfl ?_
      repeat (refine Touch.setCell ?_ (by simp) _)
      exact Touch.refl _ _
  · obtain ⟨ak, hak⟩ : ∃ ak, ak = a 1 := ⟨_, rfl⟩
    rw [← hak] at ha
    have HA := Lib.hid ha
    have HK := Lib.hid hak
    go_enter Try.func90, Try.ntmps90
    clear ha hak
    go_wp2_with fail
    refine (pa.out _).mono ?_
    rintro e w2 ⟨rfl, hB⟩
    obtain ⟨hbx, hrs, hB2⟩ := two_box hB
    have b0 := hbx.cell 0; have b1 := hbx.cell 1; have b2 := hbx.cell 2; have b3 := hbx.cell 3; have b4 := hbx.cell 4; have b5 := hbx.cell 5; have b6 := hbx.cell 6
    clear b1
    have b1 : w2.cell? ⟨w.heap.size, 1, none⟩ = some (.slice (some ⟨g, 0, none⟩) (l 1) (c 1)) := (hbx.cell 1).trans (by show some (Value.slice (a 1) (l 1) (c 1)) = _; rw [← HK.out, HA.out])
    have c0 : w2.cell? ⟨g, p * 2, none⟩ = some (.slice da dl dc) := (hB2.cell (p := ⟨g, p * 2, none⟩) hgl).trans cell0
    have HB := Lib.hid hB2
    have HRS := Lib.hid hrs
    have hz2 : w.heap.size + 2 ≤ w2.heap.size := by have := hrs.lt; omega
    have pc2 := pc.out w2.drew (below_drewN HB.out 1) hz2
    rw [← HK.out, HA.out] at pc2
    have PC := Lib.hid pc2
    clear hB hB2 hbx hrs pa cell0 pc2 pc
    go_upto_region 4 with fail
    go_region_with (first | (go_at_call 87; refine PC.out.mono ?_; rintro e w3 ⟨xa, xl, xc, xes, rfl, hD, hB3'⟩; have hB3 : Below w2.heap.size w2 w3 := ⟨hB3'.os, hB3'.tape, hB3'.output, hB3'.size, hB3'.block⟩; clear hB3'; have hrs3 := HRS.out.below hB3 HRS.out.lt; have r0 := hrs3.cell 0; have r1 := hrs3.cell 1; have r2 := hrs3.cell 2; have r3 := hrs3.cell 3; have r4 := hrs3.cell 4; have r5 := hrs3.cell 5; have r6 := hrs3.cell 6; have fr := hrs3.frozen; have HD := Lib.hid hD; have HB3 := Lib.hid hB3; clear hD hB3 hrs3; unfold dnv nc))
    all_goals
      go_wp2_with fail
      refine bodyPost_ret (v := .tuple #[.agg (nvc xa xl xc r.1.full r.1.long r.1.moved), .int .i64 r.2]) (by simp [results, Try.results90, go_sem, nvc, r0, r1, r2, r3, r4, r5, r6]) rfl ?_
      refine double_fin HD.out HB.out HB3.out rfl ?_
      repeat (refine Touch.setCell ?_ (by simp) _)
      exact Touch.refl _ _
  · obtain ⟨ak, hak⟩ : ∃ ak, ak = a 2 := ⟨_, rfl⟩
    rw [← hak] at ha
    have HA := Lib.hid ha
    have HK := Lib.hid hak
    go_enter Try.func90, Try.ntmps90
    clear ha hak
    go_wp2_with fail
    refine (pa.out _).mono ?_
    rintro e w2 ⟨rfl, hB⟩
    obtain ⟨hbx, hrs, hB2⟩ := two_box hB
    have b0 := hbx.cell 0; have b1 := hbx.cell 1; have b2 := hbx.cell 2; have b3 := hbx.cell 3; have b4 := hbx.cell 4; have b5 := hbx.cell 5; have b6 := hbx.cell 6
    clear b2
    have b2 : w2.cell? ⟨w.heap.size, 2, none⟩ = some (.slice (some ⟨g, 0, none⟩) (l 2) (c 2)) := (hbx.cell 2).trans (by show some (Value.slice (a 2) (l 2) (c 2)) = _; rw [← HK.out, HA.out])
    have c0 : w2.cell? ⟨g, p * 2, none⟩ = some (.slice da dl dc) := (hB2.cell (p := ⟨g, p * 2, none⟩) hgl).trans cell0
    have HB := Lib.hid hB2
    have HRS := Lib.hid hrs
    have hz2 : w.heap.size + 2 ≤ w2.heap.size := by have := hrs.lt; omega
    have pc2 := pc.out w2.drew (below_drewN HB.out 1) hz2
    rw [← HK.out, HA.out] at pc2
    have PC := Lib.hid pc2
    clear hB hB2 hbx hrs pa cell0 pc2 pc
    go_upto_region 4 with fail
    go_region_with (first | (go_at_call 87; refine PC.out.mono ?_; rintro e w3 ⟨xa, xl, xc, xes, rfl, hD, hB3'⟩; have hB3 : Below w2.heap.size w2 w3 := ⟨hB3'.os, hB3'.tape, hB3'.output, hB3'.size, hB3'.block⟩; clear hB3'; have hrs3 := HRS.out.below hB3 HRS.out.lt; have r0 := hrs3.cell 0; have r1 := hrs3.cell 1; have r2 := hrs3.cell 2; have r3 := hrs3.cell 3; have r4 := hrs3.cell 4; have r5 := hrs3.cell 5; have r6 := hrs3.cell 6; have fr := hrs3.frozen; have HD := Lib.hid hD; have HB3 := Lib.hid hB3; clear hD hB3 hrs3; unfold dnv nc))
    all_goals
      go_wp2_with fail
      refine bodyPost_ret (v := .tuple #[.agg (nvc xa xl xc r.1.full r.1.long r.1.moved), .int .i64 r.2]) (by simp [results, Try.results90, go_sem, nvc, r0, r1, r2, r3, r4, r5, r6]) rfl ?_
      refine double_fin HD.out HB.out HB3.out rfl ?_
      repeat (refine Touch.setCell ?_ (by simp) _)
      exact Touch.refl _ _
  · obtain ⟨ak, hak⟩ : ∃ ak, ak = a 3 := ⟨_, rfl⟩
    rw [← hak] at ha
    have HA := Lib.hid ha
    have HK := Lib.hid hak
    go_enter Try.func90, Try.ntmps90
    clear ha hak
    go_wp2_with fail
    refine (pa.out _).mono ?_
    rintro e w2 ⟨rfl, hB⟩
    obtain ⟨hbx, hrs, hB2⟩ := two_box hB
    have b0 := hbx.cell 0; have b1 := hbx.cell 1; have b2 := hbx.cell 2; have b3 := hbx.cell 3; have b4 := hbx.cell 4; have b5 := hbx.cell 5; have b6 := hbx.cell 6
    clear b3
    have b3 : w2.cell? ⟨w.heap.size, 3, none⟩ = some (.slice (some ⟨g, 0, none⟩) (l 3) (c 3)) := (hbx.cell 3).trans (by show some (Value.slice (a 3) (l 3) (c 3)) = _; rw [← HK.out, HA.out])
    have c0 : w2.cell? ⟨g, p * 2, none⟩ = some (.slice da dl dc) := (hB2.cell (p := ⟨g, p * 2, none⟩) hgl).trans cell0
    have HB := Lib.hid hB2
    have HRS := Lib.hid hrs
    have hz2 : w.heap.size + 2 ≤ w2.heap.size := by have := hrs.lt; omega
    have pc2 := pc.out w2.drew (below_drewN HB.out 1) hz2
    rw [← HK.out, HA.out] at pc2
    have PC := Lib.hid pc2
    clear hB hB2 hbx hrs pa cell0 pc2 pc
    go_upto_region 4 with fail
    go_region_with (first | (go_at_call 87; refine PC.out.mono ?_; rintro e w3 ⟨xa, xl, xc, xes, rfl, hD, hB3'⟩; have hB3 : Below w2.heap.size w2 w3 := ⟨hB3'.os, hB3'.tape, hB3'.output, hB3'.size, hB3'.block⟩; clear hB3'; have hrs3 := HRS.out.below hB3 HRS.out.lt; have r0 := hrs3.cell 0; have r1 := hrs3.cell 1; have r2 := hrs3.cell 2; have r3 := hrs3.cell 3; have r4 := hrs3.cell 4; have r5 := hrs3.cell 5; have r6 := hrs3.cell 6; have fr := hrs3.frozen; have HD := Lib.hid hD; have HB3 := Lib.hid hB3; clear hD hB3 hrs3; unfold dnv nc))
    all_goals
      go_wp2_with fail
      refine bodyPost_ret (v := .tuple #[.agg (nvc xa xl xc r.1.full r.1.long r.1.moved), .int .i64 r.2]) (by simp [results, Try.results90, go_sem, nvc, r0, r1, r2, r3, r4, r5, r6]) rfl ?_
      refine double_fin HD.out HB.out HB3.out rfl ?_
      repeat (refine Touch.setCell ?_ (by simp) _)
      exact Touch.refl _ _
end Go.Proofs.Ytmceaffoffemlaa.Netw
