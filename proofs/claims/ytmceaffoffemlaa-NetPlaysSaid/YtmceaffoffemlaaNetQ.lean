/-
  The document's net: Send, Move, Drop, Double. Conditions: the lists lie in memory; counts below a million.
-/
import Derived.Test.YtmceaffoffemlaaNetP
namespace Go.Proofs.Ytmceaffoffemlaa.Netw
open Go.RowKit
set_option linter.all false

theorem copied_all (w : World) (a : Option Addr) (n c : Nat) (es : List E) (hes : es.length = n) (h : On w 141 2 (.slice a n c) n (flat ecs es)) (hs : Sls es) (hn : n ≤ 1000) :
    Calls Try.prog 99 #[.slice a n c, .int .i64 (-1)] w (Copied w es) := by
  have := copied_any w a n c es (-1) 1000 hes h hs hn (fun i hi => by omega)
  rwa [List.eraseIdx_of_length_le (by omega)] at this
def RRes (w : World) (v : Value) (q : Int) (e : Ending) (W : World) : Prop := e = .returned (.tuple #[v, .int .i64 q]) ∧ Below w.heap.size w W
set_option maxRecDepth 100000 in
set_option maxHeartbeats 1000000 in
theorem rsend_out (w : World) (a : Nat → Option Addr) (l c : Nat → Nat) (fu lo mo d b : Int) (da : Option Addr) (dl dc : Nat) (h : ¬ isWay d b) :
    Calls Try.prog 87 #[dnv a l c fu lo mo, .int .i64 d, .int .i64 b, .slice da dl dc] w (RRes w (dnv a l c fu lo mo) 62) := by
  have p := Lib.hid (fun W => rway_out W d b h)
  clear h
  unfold dnv
  unfold nc
  go_enter Try.func87, Try.ntmps87
  go_wp2_with fail
  refine (p.out _).mono ?_
  rintro e w' ⟨rfl, rfl⟩
  go_wp2_with fail
  refine bodyPost_ret (v := .tuple #[.agg #[.slice (a 0) (l 0) (c 0), .slice (a 1) (l 1) (c 1), .slice (a 2) (l 2) (c 2), .slice (a 3) (l 3) (c 3), .int .i64 fu, .int .i64 lo, .int .i64 mo], .int .i64 62]) (by simp [results, Try.results87, go_sem]) rfl ⟨rfl, ?_⟩
  exact ((Below.refl _ w).alloc (Nat.le_refl _) _).alloc (by simp) _
def nv (a : Nat → Option Addr) (l c : Nat → Nat) (fu lo mo : Int) : Value := .agg #[.slice (a 0) (l 0) (c 0), .slice (a 1) (l 1) (c 1), .slice (a 2) (l 2) (c 2), .slice (a 3) (l 3) (c 3), .int .i64 fu, .int .i64 lo, .int .i64 mo]
set_option maxRecDepth 100000 in
set_option maxHeartbeats 2000000 in
theorem rsend_long (w : World) (a : Nat → Option Addr) (l c : Nat → Nat) (fu lo mo d b : Int) (da : Option Addr) (dl dc : Nat) (k : Nat) (q : Int) (h : W4 d b k q) (hdl : (1400 : Int) < (dl : Int)) (hlo : 0 ≤ lo) (hlo2 : lo ≤ 1000000) :
    Calls Try.prog 87 #[dnv a l c fu lo mo, .int .i64 d, .int .i64 b, .slice da dl dc] w (RRes w (dnv a l c fu (lo + 1) mo) 2) := by
  have p := Lib.hid (fun W => rway4 W d b k q h)
  unfold dnv nc
  rcases h with ⟨rfl, rfl, rfl, rfl⟩ | ⟨rfl, rfl, rfl, rfl⟩ | ⟨rfl, rfl, rfl, rfl⟩ | ⟨rfl, rfl, rfl, rfl⟩
  all_goals
    go_enter Try.func87, Try.ntmps87
    go_wp2_with fail
    refine (p.out _).mono ?_
    rintro e w' ⟨rfl, rfl⟩
    go_wp2_with fail
    refine bodyPost_ret (v := .tuple #[nv a l c fu (lo + 1) mo, .int .i64 2]) (by simp [results, Try.results87, go_sem, nv]) rfl ⟨rfl, ?_⟩
    exact ((Below.refl _ w).alloc (Nat.le_refl _) _).alloc (by simp) _
set_option maxRecDepth 100000 in
set_option maxHeartbeats 2000000 in
theorem rsend_full (w : World) (a : Nat → Option Addr) (l c : Nat → Nat) (fu lo mo d b : Int) (da : Option Addr) (dl dc : Nat) (k : Nat) (q : Int) (h : W4 d b k q) (hdl : ¬ (1400 : Int) < (dl : Int)) (hl : (128 : Int) ≤ (l k : Int)) (hlo : 0 ≤ fu) (hlo2 : fu ≤ 1000000) :
    Calls Try.prog 87 #[dnv a l c fu lo mo, .int .i64 d, .int .i64 b, .slice da dl dc] w (RRes w (dnv a l c (fu + 1) lo mo) 2) := by
  have p := Lib.hid (fun W => rway4 W d b k q h)
  unfold dnv nc
  rcases h with ⟨rfl, rfl, rfl, rfl⟩ | ⟨rfl, rfl, rfl, rfl⟩ | ⟨rfl, rfl, rfl, rfl⟩ | ⟨rfl, rfl, rfl, rfl⟩
  all_goals
    go_enter Try.func87, Try.ntmps87
    go_wp2_with fail
    refine (p.out _).mono ?_
    rintro e w' ⟨rfl, rfl⟩
    go_wp2_with fail
    refine bodyPost_ret (v := .tuple #[nv a l c (fu + 1) lo mo, .int .i64 2]) (by simp [results, Try.results87, go_sem, nv]) rfl ⟨rfl, ?_⟩
    exact ((Below.refl _ w).alloc (Nat.le_refl _) _).alloc (by simp) _
/-- What a write of the way k leaves. -/
def RPut (w : World) (a : Nat → Option Addr) (l c : Nat → Nat) (fu lo mo : Int) (k : Nat) (es : List E) (f : Value → Value) (e : Ending) (W : World) : Prop :=
  ∃ x xc, e = .returned (f (dnv (upd a k x) (upd l k es.length) (upd c k xc) fu lo mo)) ∧ Lst W (.slice x es.length xc) es ∧ (∀ g, (Value.slice x es.length xc).ownBlock = some g → w.heap.size ≤ g) ∧ Below w.heap.size w W
theorem rput_fin {w w2 W : World} {a : Nat → Option Addr} {l c : Nat → Nat} {fu lo mo : Int} {k xc : Nat} {x : Option Addr} {es : List E} {f : Value → Value} {e : Ending} (hB : Below w.heap.size w w2) (hL : Lst w2 (.slice x es.length xc) es)
    (hown : ∀ g, (Value.slice x es.length xc).ownBlock = some g → w.heap.size + 2 ≤ g) (hT : Touch (fun g => g = w.heap.size ∨ g = w.heap.size + 1) w2 W)
    (he : e = .returned (f (dnv (upd a k x) (upd l k es.length) (upd c k xc) fu lo mo))) : RPut w a l c fu lo mo k es f e W :=
  ⟨x, xc, he, On.touch hL hT (fun g hg h => by have := hown g hg; omega), fun g hg => by have := hown g hg; omega, hB.trans (hT.below hB.size (fun k hk => by omega))⟩
set_option maxRecDepth 100000 in
set_option maxHeartbeats 4000000 in
theorem rsend_ok (w : World) (a : Nat → Option Addr) (l c : Nat → Nat) (fu lo mo d b : Int) (da : Option Addr) (dl dc : Nat) (k : Nat) (q : Int) (es : List E) (h : W4 d b k q) (hdl : ¬ (1400 : Int) < (dl : Int)) (hl : ¬ (128 : Int) ≤ (l k : Int))
    (hL : Lst w (.slice (a k) (l k) (c k)) es) (hes : es.length = l k) (hs : Sls es) :
    Calls Try.prog 87 #[dnv a l c fu lo mo, .int .i64 d, .int .i64 b, .slice da dl dc] w (RPut w a l c fu lo mo k (es ++ [(.slice da dl dc, 0)]) (fun v => .tuple #[v, .int .i64 0])) := by
  have p := Lib.hid (fun W => rway4 W d b k q h)
  obtain ⟨i0, hi, hz0, hz1, hz2⟩ := info_parts rmail_info
  unfold Lst at hL
  rw [hes] at hL
  have pc := Lib.hid (fun W (hb : Below w.heap.size w W) => copied_all W (a k) (l k) (c k) es hes (hL.below hb (fun g hg => hL.lt g hg)) hs (by omega))
  have HES := Lib.hid hes
  have hln : es.length ≤ 200 := by omega
  clear hL hes hs
  unfold dnv nc
  rcases h with ⟨rfl, rfl, rfl, rfl⟩ | ⟨rfl, rfl, rfl, rfl⟩ | ⟨rfl, rfl, rfl, rfl⟩ | ⟨rfl, rfl, rfl, rfl⟩
  · go_enter Try.func87, Try.ntmps87
    go_wp2_with fail
    refine (p.out _).mono ?_
    rintro e w' ⟨rfl, rfl⟩
    go_wp2_with fail
    refine (pc.out _ (((Below.refl _ w).alloc (Nat.le_refl _) _).alloc (by simp) _)).mono ?_
    rintro e w2 ⟨ca, cc, rfl, hL2, hown2, hB2⟩
    obtain ⟨n, hn⟩ : ∃ n, n = es.length := ⟨_, rfl⟩
    have hbx2 : Blk w2 w.heap.size 71 #[.slice (a 0) (l 0) (c 0), .slice (a 1) (l 1) (c 1), .slice (a 2) (l 2) (c 2), .slice (a 3) (l 3) (c 3), .int .i64 fu, .int .i64 lo, .int .i64 mo] := Blk.below ((Blk.new w _ _).alloc _) hB2 (by simp; omega)
    have hrs2 : Blk w2 (w.heap.size + 1) 71 #[.slice none 0 0, .slice none 0 0, .slice none 0 0, .slice none 0 0, .int .i64 0, .int .i64 0, .int .i64 0] := Blk.below (by have := Blk.new (w.alloc (.cells #[.slice (a 0) (l 0) (c 0), .slice (a 1) (l 1) (c 1), .slice (a 2) (l 2) (c 2), .slice (a 3) (l 3) (c 3), .int .i64 fu, .int .i64 lo, .int .i64 mo] 71)) 71 #[.slice none 0 0, .slice none 0 0, .slice none 0 0, .slice none 0 0, .int .i64 0, .int .i64 0, .int .i64 0]; simpa using this) hB2 (by simp)
    have hB2' : Below w.heap.size w w2 := (((Below.refl _ w).alloc (Nat.le_refl _) _).alloc (by simp) _).trans (hB2.mono (by simp; omega))
    have hX := hL2
    unfold Lst at hX
    rw [← hn] at hX hown2 ⊢
    have hown2' : ∀ g, (Value.slice ca n cc).ownBlock = some g → w.heap.size + 2 ≤ g := fun g hg => by have := hown2 g hg; simp at this; omega
    have HX := Lib.hid (hX.alloc (.cells #[.slice da dl dc, .int .i64 0] 141))
    have HOWN := Lib.hid hown2'
    have HBB := Lib.hid hB2'
    have HBX := Lib.hid hbx2
    have HRS := Lib.hid hrs2
    have HN := Lib.hid hn
    rw [← hn] at hln
    have hsz2 := hB2'.size
    clear hX hown2 hown2' hB2 hB2' hbx2 hrs2 hL2 hn
    go_wp2_with (at_builtin; refine wpList_append_on _ (by rfl) _ _ 68 (by rfl) 141 i0 _ 2 32 Try.underlying68 hi hz0 hz1 hz2 (by rfl) (by omega) (.slice ca n cc) n (flat ecs es) (by rfl) HX.out (some ⟨w2.heap.size, 0, none⟩) 1 1 [.slice da dl dc, .int .i64 0] (by rfl) (by rfl) (src_new w2 141 1 [.slice da dl dc, .int .i64 0]) (by simp [Value.oneCell']) (by simp only [maxLen]; omega) (by omega) ?_; intro v' w3 hon hg hv'; obtain ⟨xa, xc, rfl, _, _⟩ := hon.slice; have HON := Lib.hid hon; have HG := Lib.hid hg; have HV := Lib.hid hv'; have hbx3 := Blk.grown' hg (HBX.out.alloc _) (fun e => by have := HOWN.out _ e; omega); have hrs3 := Blk.grown' hg (HRS.out.alloc _) (fun e => by have := HOWN.out _ e; omega); have b0 := hbx3.cell 0; have b1 := hbx3.cell 1; have b2 := hbx3.cell 2; have b3 := hbx3.cell 3; have b4 := hbx3.cell 4; have b5 := hbx3.cell 5; have b6 := hbx3.cell 6; have r0 := hrs3.cell 0; have r1 := hrs3.cell 1; have r2 := hrs3.cell 2; have r3 := hrs3.cell 3; have r4 := hrs3.cell 4; have r5 := hrs3.cell 5; have r6 := hrs3.cell 6; have fb := hbx3.frozen; have fr := hrs3.frozen; clear hon hg hv' hbx3 hrs3)
    refine bodyPost_ret (v := .tuple #[dnv (upd a 0 xa) (upd l 0 (n + 1)) (upd c 0 xc) fu lo mo, .int .i64 0]) (by simp [results, Try.results87, go_sem, dnv, nc, upd, r0, r1, r2, r3, r4, r5, r6]) rfl ?_
    have hl1 : n + 1 = (es ++ [(Value.slice da dl dc, (0 : Int))]).length := by rw [List.length_append, List.length_singleton, HN.out]
    have hL3 : Lst w3 (.slice xa (n + 1) xc) (es ++ [(.slice da dl dc, 0)]) := by
      unfold Lst
      rw [← hl1, flat_snoc]
      exact HON.out
    have hB3 : Below w.heap.size w w3 := by
      refine HBB.out.trans ⟨HG.out.os, HG.out.tape, HG.out.output, Nat.le_trans (by simp) HG.out.size, fun k' hk' => (HG.out.block k' (by simp; omega) (fun e => by have := HOWN.out _ e.symm; omega)).trans (heap_old w2 _ (by omega))⟩
    have hO3 : ∀ g, (Value.slice xa (n + 1) xc).ownBlock = some g → w.heap.size + 2 ≤ g := fun g hg => by
      rcases HV.out with e | e
      · exact HOWN.out g (by rw [← e]; exact hg)
      · rw [hg] at e
        have : g = w2.heap.size + 1 := by simpa using e
        have := HBX.out.lt
        have := HRS.out.lt
        omega
    rw [hl1] at hL3 hO3 ⊢
    refine rput_fin hB3 hL3 hO3 ?_ rfl
    repeat (refine Touch.setCell ?_ (by simp) _)
    exact Touch.refl _ _
  · go_enter Try.func87, Try.ntmps87
    go_wp2_with fail
    refine (p.out _).mono ?_
    rintro e w' ⟨rfl, rfl⟩
    go_wp2_with fail
    refine (pc.out _ (((Below.refl _ w).alloc (Nat.le_refl _) _).alloc (by simp) _)).mono ?_
    rintro e w2 ⟨ca, cc, rfl, hL2, hown2, hB2⟩
    obtain ⟨n, hn⟩ : ∃ n, n = es.length := ⟨_, rfl⟩
    have hbx2 : Blk w2 w.heap.size 71 #[.slice (a 0) (l 0) (c 0), .slice (a 1) (l 1) (c 1), .slice (a 2) (l 2) (c 2), .slice (a 3) (l 3) (c 3), .int .i64 fu, .int .i64 lo, .int .i64 mo] := Blk.below ((Blk.new w _ _).alloc _) hB2 (by simp; omega)
    have hrs2 : Blk w2 (w.heap.size + 1) 71 #[.slice none 0 0, .slice none 0 0, .slice none 0 0, .slice none 0 0, .int .i64 0, .int .i64 0, .int .i64 0] := Blk.below (by have := Blk.new (w.alloc (.cells #[.slice (a 0) (l 0) (c 0), .slice (a 1) (l 1) (c 1), .slice (a 2) (l 2) (c 2), .slice (a 3) (l 3) (c 3), .int .i64 fu, .int .i64 lo, .int .i64 mo] 71)) 71 #[.slice none 0 0, .slice none 0 0, .slice none 0 0, .slice none 0 0, .int .i64 0, .int .i64 0, .int .i64 0]; simpa using this) hB2 (by simp)
    have hB2' : Below w.heap.size w w2 := (((Below.refl _ w).alloc (Nat.le_refl _) _).alloc (by simp) _).trans (hB2.mono (by simp; omega))
    have hX := hL2
    unfold Lst at hX
    rw [← hn] at hX hown2 ⊢
    have hown2' : ∀ g, (Value.slice ca n cc).ownBlock = some g → w.heap.size + 2 ≤ g := fun g hg => by have := hown2 g hg; simp at this; omega
    have HX := Lib.hid (hX.alloc (.cells #[.slice da dl dc, .int .i64 0] 141))
    have HOWN := Lib.hid hown2'
    have HBB := Lib.hid hB2'
    have HBX := Lib.hid hbx2
    have HRS := Lib.hid hrs2
    have HN := Lib.hid hn
    rw [← hn] at hln
    have hsz2 := hB2'.size
    clear hX hown2 hown2' hB2 hB2' hbx2 hrs2 hL2 hn
    go_wp2_with (at_builtin; refine wpList_append_on _ (by rfl) _ _ 68 (by rfl) 141 i0 _ 2 32 Try.underlying68 hi hz0 hz1 hz2 (by rfl) (by omega) (.slice ca n cc) n (flat ecs es) (by rfl) HX.out (some ⟨w2.heap.size, 0, none⟩) 1 1 [.slice da dl dc, .int .i64 0] (by rfl) (by rfl) (src_new w2 141 1 [.slice da dl dc, .int .i64 0]) (by simp [Value.oneCell']) (by simp only [maxLen]; omega) (by omega) ?_; intro v' w3 hon hg hv'; obtain ⟨xa, xc, rfl, _, _⟩ := hon.slice; have HON := Lib.hid hon; have HG := Lib.hid hg; have HV := Lib.hid hv'; have hbx3 := Blk.grown' hg (HBX.out.alloc _) (fun e => by have := HOWN.out _ e; omega); have hrs3 := Blk.grown' hg (HRS.out.alloc _) (fun e => by have := HOWN.out _ e; omega); have b0 := hbx3.cell 0; have b1 := hbx3.cell 1; have b2 := hbx3.cell 2; have b3 := hbx3.cell 3; have b4 := hbx3.cell 4; have b5 := hbx3.cell 5; have b6 := hbx3.cell 6; have r0 := hrs3.cell 0; have r1 := hrs3.cell 1; have r2 := hrs3.cell 2; have r3 := hrs3.cell 3; have r4 := hrs3.cell 4; have r5 := hrs3.cell 5; have r6 := hrs3.cell 6; have fb := hbx3.frozen; have fr := hrs3.frozen; clear hon hg hv' hbx3 hrs3)
    refine bodyPost_ret (v := .tuple #[dnv (upd a 1 xa) (upd l 1 (n + 1)) (upd c 1 xc) fu lo mo, .int .i64 0]) (by simp [results, Try.results87, go_sem, dnv, nc, upd, r0, r1, r2, r3, r4, r5, r6]) rfl ?_
    have hl1 : n + 1 = (es ++ [(Value.slice da dl dc, (0 : Int))]).length := by rw [List.length_append, List.length_singleton, HN.out]
    have hL3 : Lst w3 (.slice xa (n + 1) xc) (es ++ [(.slice da dl dc, 0)]) := by
      unfold Lst
      rw [← hl1, flat_snoc]
      exact HON.out
    have hB3 : Below w.heap.size w w3 := by
      refine HBB.out.trans ⟨HG.out.os, HG.out.tape, HG.out.output, Nat.le_trans (by simp) HG.out.size, fun k' hk' => (HG.out.block k' (by simp; omega) (fun e => by have := HOWN.out _ e.symm; omega)).trans (heap_old w2 _ (by omega))⟩
    have hO3 : ∀ g, (Value.slice xa (n + 1) xc).ownBlock = some g → w.heap.size + 2 ≤ g := fun g hg => by
      rcases HV.out with e | e
      · exact HOWN.out g (by rw [← e]; exact hg)
      · rw [hg] at e
        have : g = w2.heap.size + 1 := by simpa using e
        have := HBX.out.lt
        have := HRS.out.lt
        omega
    rw [hl1] at hL3 hO3 ⊢
    refine rput_fin hB3 hL3 hO3 ?_ rfl
    repeat (refine Touch.setCell ?_ (by simp) _)
    exact Touch.refl _ _
  · go_enter Try.func87, Try.ntmps87
    go_wp2_with fail
    refine (p.out _).mono ?_
    rintro e w' ⟨rfl, rfl⟩
    go_wp2_with fail
    refine (pc.out _ (((Below.refl _ w).alloc (Nat.le_refl _) _).alloc (by simp) _)).mono ?_
    rintro e w2 ⟨ca, cc, rfl, hL2, hown2, hB2⟩
    obtain ⟨n, hn⟩ : ∃ n, n = es.length := ⟨_, rfl⟩
    have hbx2 : Blk w2 w.heap.size 71 #[.slice (a 0) (l 0) (c 0), .slice (a 1) (l 1) (c 1), .slice (a 2) (l 2) (c 2), .slice (a 3) (l 3) (c 3), .int .i64 fu, .int .i64 lo, .int .i64 mo] := Blk.below ((Blk.new w _ _).alloc _) hB2 (by simp; omega)
    have hrs2 : Blk w2 (w.heap.size + 1) 71 #[.slice none 0 0, .slice none 0 0, .slice none 0 0, .slice none 0 0, .int .i64 0, .int .i64 0, .int .i64 0] := Blk.below (by have := Blk.new (w.alloc (.cells #[.slice (a 0) (l 0) (c 0), .slice (a 1) (l 1) (c 1), .slice (a 2) (l 2) (c 2), .slice (a 3) (l 3) (c 3), .int .i64 fu, .int .i64 lo, .int .i64 mo] 71)) 71 #[.slice none 0 0, .slice none 0 0, .slice none 0 0, .slice none 0 0, .int .i64 0, .int .i64 0, .int .i64 0]; simpa using this) hB2 (by simp)
    have hB2' : Below w.heap.size w w2 := (((Below.refl _ w).alloc (Nat.le_refl _) _).alloc (by simp) _).trans (hB2.mono (by simp; omega))
    have hX := hL2
    unfold Lst at hX
    rw [← hn] at hX hown2 ⊢
    have hown2' : ∀ g, (Value.slice ca n cc).ownBlock = some g → w.heap.size + 2 ≤ g := fun g hg => by have := hown2 g hg; simp at this; omega
    have HX := Lib.hid (hX.alloc (.cells #[.slice da dl dc, .int .i64 0] 141))
    have HOWN := Lib.hid hown2'
    have HBB := Lib.hid hB2'
    have HBX := Lib.hid hbx2
    have HRS := Lib.hid hrs2
    have HN := Lib.hid hn
    rw [← hn] at hln
    have hsz2 := hB2'.size
    clear hX hown2 hown2' hB2 hB2' hbx2 hrs2 hL2 hn
    go_wp2_with (at_builtin; refine wpList_append_on _ (by rfl) _ _ 68 (by rfl) 141 i0 _ 2 32 Try.underlying68 hi hz0 hz1 hz2 (by rfl) (by omega) (.slice ca n cc) n (flat ecs es) (by rfl) HX.out (some ⟨w2.heap.size, 0, none⟩) 1 1 [.slice da dl dc, .int .i64 0] (by rfl) (by rfl) (src_new w2 141 1 [.slice da dl dc, .int .i64 0]) (by simp [Value.oneCell']) (by simp only [maxLen]; omega) (by omega) ?_; intro v' w3 hon hg hv'; obtain ⟨xa, xc, rfl, _, _⟩ := hon.slice; have HON := Lib.hid hon; have HG := Lib.hid hg; have HV := Lib.hid hv'; have hbx3 := Blk.grown' hg (HBX.out.alloc _) (fun e => by have := HOWN.out _ e; omega); have hrs3 := Blk.grown' hg (HRS.out.alloc _) (fun e => by have := HOWN.out _ e; omega); have b0 := hbx3.cell 0; have b1 := hbx3.cell 1; have b2 := hbx3.cell 2; have b3 := hbx3.cell 3; have b4 := hbx3.cell 4; have b5 := hbx3.cell 5; have b6 := hbx3.cell 6; have r0 := hrs3.cell 0; have r1 := hrs3.cell 1; have r2 := hrs3.cell 2; have r3 := hrs3.cell 3; have r4 := hrs3.cell 4; have r5 := hrs3.cell 5; have r6 := hrs3.cell 6; have fb := hbx3.frozen; have fr := hrs3.frozen; clear hon hg hv' hbx3 hrs3)
    refine bodyPost_ret (v := .tuple #[dnv (upd a 2 xa) (upd l 2 (n + 1)) (upd c 2 xc) fu lo mo, .int .i64 0]) (by simp [results, Try.results87, go_sem, dnv, nc, upd, r0, r1, r2, r3, r4, r5, r6]) rfl ?_
    have hl1 : n + 1 = (es ++ [(Value.slice da dl dc, (0 : Int))]).length := by rw [List.length_append, List.length_singleton, HN.out]
    have hL3 : Lst w3 (.slice xa (n + 1) xc) (es ++ [(.slice da dl dc, 0)]) := by
      unfold Lst
      rw [← hl1, flat_snoc]
      exact HON.out
    have hB3 : Below w.heap.size w w3 := by
      refine HBB.out.trans ⟨HG.out.os, HG.out.tape, HG.out.output, Nat.le_trans (by simp) HG.out.size, fun k' hk' => (HG.out.block k' (by simp; omega) (fun e => by have := HOWN.out _ e.symm; omega)).trans (heap_old w2 _ (by omega))⟩
    have hO3 : ∀ g, (Value.slice xa (n + 1) xc).ownBlock = some g → w.heap.size + 2 ≤ g := fun g hg => by
      rcases HV.out with e | e
      · exact HOWN.out g (by rw [← e]; exact hg)
      · rw [hg] at e
        have : g = w2.heap.size + 1 := by simpa using e
        have := HBX.out.lt
        have := HRS.out.lt
        omega
    rw [hl1] at hL3 hO3 ⊢
    refine rput_fin hB3 hL3 hO3 ?_ rfl
    repeat (refine Touch.setCell ?_ (by simp) _)
    exact Touch.refl _ _
  · go_enter Try.func87, Try.ntmps87
    go_wp2_with fail
    refine (p.out _).mono ?_
    rintro e w' ⟨rfl, rfl⟩
    go_wp2_with fail
    refine (pc.out _ (((Below.refl _ w).alloc (Nat.le_refl _) _).alloc (by simp) _)).mono ?_
    rintro e w2 ⟨ca, cc, rfl, hL2, hown2, hB2⟩
    obtain ⟨n, hn⟩ : ∃ n, n = es.length := ⟨_, rfl⟩
    have hbx2 : Blk w2 w.heap.size 71 #[.slice (a 0) (l 0) (c 0), .slice (a 1) (l 1) (c 1), .slice (a 2) (l 2) (c 2), .slice (a 3) (l 3) (c 3), .int .i64 fu, .int .i64 lo, .int .i64 mo] := Blk.below ((Blk.new w _ _).alloc _) hB2 (by simp; omega)
    have hrs2 : Blk w2 (w.heap.size + 1) 71 #[.slice none 0 0, .slice none 0 0, .slice none 0 0, .slice none 0 0, .int .i64 0, .int .i64 0, .int .i64 0] := Blk.below (by have := Blk.new (w.alloc (.cells #[.slice (a 0) (l 0) (c 0), .slice (a 1) (l 1) (c 1), .slice (a 2) (l 2) (c 2), .slice (a 3) (l 3) (c 3), .int .i64 fu, .int .i64 lo, .int .i64 mo] 71)) 71 #[.slice none 0 0, .slice none 0 0, .slice none 0 0, .slice none 0 0, .int .i64 0, .int .i64 0, .int .i64 0]; simpa using this) hB2 (by simp)
    have hB2' : Below w.heap.size w w2 := (((Below.refl _ w).alloc (Nat.le_refl _) _).alloc (by simp) _).trans (hB2.mono (by simp; omega))
    have hX := hL2
    unfold Lst at hX
    rw [← hn] at hX hown2 ⊢
    have hown2' : ∀ g, (Value.slice ca n cc).ownBlock = some g → w.heap.size + 2 ≤ g := fun g hg => by have := hown2 g hg; simp at this; omega
    have HX := Lib.hid (hX.alloc (.cells #[.slice da dl dc, .int .i64 0] 141))
    have HOWN := Lib.hid hown2'
    have HBB := Lib.hid hB2'
    have HBX := Lib.hid hbx2
    have HRS := Lib.hid hrs2
    have HN := Lib.hid hn
    rw [← hn] at hln
    have hsz2 := hB2'.size
    clear hX hown2 hown2' hB2 hB2' hbx2 hrs2 hL2 hn
    go_wp2_with (at_builtin; refine wpList_append_on _ (by rfl) _ _ 68 (by rfl) 141 i0 _ 2 32 Try.underlying68 hi hz0 hz1 hz2 (by rfl) (by omega) (.slice ca n cc) n (flat ecs es) (by rfl) HX.out (some ⟨w2.heap.size, 0, none⟩) 1 1 [.slice da dl dc, .int .i64 0] (by rfl) (by rfl) (src_new w2 141 1 [.slice da dl dc, .int .i64 0]) (by simp [Value.oneCell']) (by simp only [maxLen]; omega) (by omega) ?_; intro v' w3 hon hg hv'; obtain ⟨xa, xc, rfl, _, _⟩ := hon.slice; have HON := Lib.hid hon; have HG := Lib.hid hg; have HV := Lib.hid hv'; have hbx3 := Blk.grown' hg (HBX.out.alloc _) (fun e => by have := HOWN.out _ e; omega); have hrs3 := Blk.grown' hg (HRS.out.alloc _) (fun e => by have := HOWN.out _ e; omega); have b0 := hbx3.cell 0; have b1 := hbx3.cell 1; have b2 := hbx3.cell 2; have b3 := hbx3.cell 3; have b4 := hbx3.cell 4; have b5 := hbx3.cell 5; have b6 := hbx3.cell 6; have r0 := hrs3.cell 0; have r1 := hrs3.cell 1; have r2 := hrs3.cell 2; have r3 := hrs3.cell 3; have r4 := hrs3.cell 4; have r5 := hrs3.cell 5; have r6 := hrs3.cell 6; have fb := hbx3.frozen; have fr := hrs3.frozen; clear hon hg hv' hbx3 hrs3)
    refine bodyPost_ret (v := .tuple #[dnv (upd a 3 xa) (upd l 3 (n + 1)) (upd c 3 xc) fu lo mo, .int .i64 0]) (by simp [results, Try.results87, go_sem, dnv, nc, upd, r0, r1, r2, r3, r4, r5, r6]) rfl ?_
    have hl1 : n + 1 = (es ++ [(Value.slice da dl dc, (0 : Int))]).length := by rw [List.length_append, List.length_singleton, HN.out]
    have hL3 : Lst w3 (.slice xa (n + 1) xc) (es ++ [(.slice da dl dc, 0)]) := by
      unfold Lst
      rw [← hl1, flat_snoc]
      exact HON.out
    have hB3 : Below w.heap.size w w3 := by
      refine HBB.out.trans ⟨HG.out.os, HG.out.tape, HG.out.output, Nat.le_trans (by simp) HG.out.size, fun k' hk' => (HG.out.block k' (by simp; omega) (fun e => by have := HOWN.out _ e.symm; omega)).trans (heap_old w2 _ (by omega))⟩
    have hO3 : ∀ g, (Value.slice xa (n + 1) xc).ownBlock = some g → w.heap.size + 2 ≤ g := fun g hg => by
      rcases HV.out with e | e
      · exact HOWN.out g (by rw [← e]; exact hg)
      · rw [hg] at e
        have : g = w2.heap.size + 1 := by simpa using e
        have := HBX.out.lt
        have := HRS.out.lt
        omega
    rw [hl1] at hL3 hO3 ⊢
    refine rput_fin hB3 hL3 hO3 ?_ rfl
    repeat (refine Touch.setCell ?_ (by simp) _)
    exact Touch.refl _ _
theorem DN.widen {w : World} {O O' : Nat → Prop} {a : Nat → Option Addr} {l c : Nat → Nat} {es : Nat → List E} {m : MN} (h : DN w O a l c es m) (hO : ∀ g, O' g → O g ∨ w.heap.size ≤ g) : DN w O' a l c es m := h.go (Touch.refl _ _) hO
theorem DN.lnm {w : World} {O : Nat → Prop} {a : Nat → Option Addr} {l c : Nat → Nat} {es : Nat → List E} {m : MN} (h : DN w O a l c es m) {k : Nat} (hk : k < 4) : l k = (m.L k).length := (h.ln k hk).trans (h.len k hk)
theorem DRes.put {w W : World} {O : Nat → Prop} {a : Nat → Option Addr} {l c : Nat → Nat} {es : Nat → List E} {m m' : MN} {k : Nat} {q : Int} {e' : List E} {l' : List Ml} {e : Ending} (h : DN w O a l c es m) (hk : k < 4) (hO : ∀ g, O g → g < w.heap.size) (hln : e'.length = l'.length)
    (hd : ∀ (j : Nat) (e : E) (y : Ml), e'[j]? = some e → l'[j]? = some y → e.2 = y.2 ∧ ∃ da dc, e.1 = .slice da y.1.length dc ∧ Rd w O da y.1.length y.1) (hm' : m'.L = (m.put k l').L)
    (hR : RPut w a l c m'.full m'.long m'.moved k e' (fun v => .tuple #[v, .int .i64 q]) e W) : DRes w O (m', q) e W := by
  obtain ⟨x, xc, rfl, hL, hown, hB⟩ := hR
  have h2 := (h.below hB).put hk (l' := l') hL hln (fun j e y he hy => by
    obtain ⟨h1, da, dc, h2, h3⟩ := hd j e y he hy
    exact ⟨h1, da, dc, h2, h3.below hB⟩) (fun g hg hOg => by have := hown g hg; have := hO g hOg; omega)
  refine ⟨_, _, _, _, rfl, ⟨h2.lst, h2.ln, fun k hk => by show _ = (m'.L k).length; rw [hm']; exact h2.len k hk, fun k hk j e x he hx => h2.dat k hk j e x he (by rw [← hm']; exact hx), h2.own⟩, hB⟩
theorem rsend_any (W : World) (O : Nat → Prop) (a : Nat → Option Addr) (l c : Nat → Nat) (es : Nat → List E) (m : MN) (cm : Int) (d b : Int) (da : Option Addr) (dl dc : Nat) (bs : List Int) (h : DN W O a l c es m) (hm : MOk m cm) (hcm : cm ≤ 1000000) (hr : Rd W O da bs.length bs) (hdl : bs.length = dl) (hO : ∀ g, O g → g < W.heap.size) :
    Calls Try.prog 87 #[dnv a l c m.full m.long m.moved, .int .i64 d, .int .i64 b, .slice da dl dc] W (DRes W O (m.send d b bs)) := by
  unfold MN.send
  have b1 := hm.full
  have b2 := hm.long
  subst hdl
  by_cases hw : isWay d b
  · rw [if_pos hw]
    obtain ⟨k, q, hk, h4⟩ := w4 hw
    have hk4 := wayNo_lt hw
    rw [hk] at hk4 ⊢
    by_cases h1 : 1400 < bs.length
    · rw [if_pos h1]
      refine (rsend_long W a l c m.full m.long m.moved d b da bs.length dc k q h4 (by omega) (by omega) (by omega)).mono ?_
      rintro e w' ⟨rfl, hB⟩
      have h2 := h.below hB
      exact ⟨a, l, c, es, rfl, ⟨h2.lst, h2.ln, h2.len, h2.dat, h2.own⟩, hB⟩
    · rw [if_neg h1]
      by_cases h2 : 128 ≤ (m.L k).length
      · rw [if_pos h2]
        refine (rsend_full W a l c m.full m.long m.moved d b da bs.length dc k q h4 (by omega) (by rw [h.lnm hk4]; omega) (by omega) (by omega)).mono ?_
        rintro e w' ⟨rfl, hB⟩
        have h2 := h.below hB
        exact ⟨a, l, c, es, rfl, ⟨h2.lst, h2.ln, h2.len, h2.dat, h2.own⟩, hB⟩
      · rw [if_neg h2]
        refine (rsend_ok W a l c m.full m.long m.moved d b da bs.length dc k q (es k) h4 (by omega) (by rw [h.lnm hk4]; omega) (h.lst k hk4) (h.ln k hk4).symm (h.sls hk4)).mono ?_
        intro e w' hR
        exact DRes.put h hk4 hO (by rw [List.length_append, List.length_append, h.len k hk4]; rfl) (h.snoc hk4 hr) rfl hR
  · rw [if_neg hw]
    refine (rsend_out W a l c m.full m.long m.moved d b da bs.length dc hw).mono ?_
    rintro e w' ⟨rfl, hB⟩
    exact ⟨a, l, c, es, rfl, h.below hB, hB⟩
end Go.Proofs.Ytmceaffoffemlaa.Netw
