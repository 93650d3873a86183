/-
  The document's net: Move, Drop, Double. Conditions: the lists lie in memory; counts below a million.
-/
import Derived.Test.YtmceaffoffemlaaNetQ
namespace Go.Proofs.Ytmceaffoffemlaa.Netw
open Go.RowKit
set_option linter.all false

/-- at refuses with code q. -/
def RAtNo (w : World) (a : Nat → Option Addr) (l c : Nat → Nat) (fu lo mo d b i q : Int) : Prop := ∀ W, Below w.heap.size w W → Calls Try.prog 100 #[dnv a l c fu lo mo, .int .i64 d, .int .i64 b, .int .i64 i] W fun e w' => DAt e W w' 0 0 q
theorem ratNo_out (w : World) (a : Nat → Option Addr) (l c : Nat → Nat) (fu lo mo d b i : Int) (h : ¬ isWay d b) : RAtNo w a l c fu lo mo d b i 62 := fun W _ => rat_out W a l c fu lo mo d b i h
theorem ratNo_none (w : World) (a : Nat → Option Addr) (l c : Nat → Nat) (fu lo mo d b i : Int) (k : Nat) (q : Int) (h : W4 d b k q) (hl : l k = 0) : RAtNo w a l c fu lo mo d b i 91 := fun W _ => rat_none W a l c fu lo mo d b i k q h hl
/-- The box and the result's box in a world behind a call. -/
theorem two_box {w w2 : World} {x y : Array Value} {t : TypeId} (hB : Below ((w.alloc (.cells x t)).alloc (.cells y t)).heap.size ((w.alloc (.cells x t)).alloc (.cells y t)) w2) : Blk w2 w.heap.size t x ∧ Blk w2 (w.heap.size + 1) t y ∧ Below w.heap.size w w2 :=
  ⟨Blk.below ((Blk.new w t x).alloc _) hB (by simp; omega), Blk.below (by have := Blk.new (w.alloc (.cells x t)) t y; simpa using this) hB (by simp), (((Below.refl _ w).alloc (Nat.le_refl _) _).alloc (by simp) _).trans (hB.mono (by simp; omega))⟩
theorem two_end {w w2 W : World} (hB : Below w.heap.size w w2) (hT : Touch (fun g => g = w.heap.size ∨ g = w.heap.size + 1) w2 W) : Below w.heap.size w W := hB.trans (hT.below hB.size (fun k hk => by omega))
def z7 : Array Value := #[.slice none 0 0, .slice none 0 0, .slice none 0 0, .slice none 0 0, .int .i64 0, .int .i64 0, .int .i64 0]
def nvc (a : Nat → Option Addr) (l c : Nat → Nat) (fu lo mo : Int) : Array Value := #[.slice (a 0) (l 0) (c 0), .slice (a 1) (l 1) (c 1), .slice (a 2) (l 2) (c 2), .slice (a 3) (l 3) (c 3), .int .i64 fu, .int .i64 lo, .int .i64 mo]
set_option maxRecDepth 100000 in
set_option maxHeartbeats 1000000 in
theorem rmove_no (w : World) (a : Nat → Option Addr) (l c : Nat → Nat) (fu lo mo d b i q : Int) (h : RAtNo w a l c fu lo mo d b i q) (hq : (q == 0) = false) :
    Calls Try.prog 88 #[dnv a l c fu lo mo, .int .i64 d, .int .i64 b, .int .i64 i] w fun e w' => e = .returned (.tuple #[dnv a l c fu lo mo, .slice none 0 0, .int .i64 q]) ∧ Below w.heap.size w w' := by
  have p := Lib.hid h
  clear h
  have hq' : (q != 0) = true := by simp [bne, hq]
  unfold RAtNo dnv nc at p
  unfold dnv nc
  go_enter Try.func88, Try.ntmps88
  go_wp2_with fail
  refine (p.out _ (((Below.refl _ w).alloc (Nat.le_refl _) _).alloc (by simp) _)).mono ?_
  rintro e w2 ⟨rfl, hB⟩
  obtain ⟨hbx, hrs, hB2⟩ := two_box hB
  have b0 := hbx.cell 0; have b1 := hbx.cell 1; have b2 := hbx.cell 2; have b3 := hbx.cell 3; have b4 := hbx.cell 4; have b5 := hbx.cell 5; have b6 := hbx.cell 6
  have r0 := hrs.cell 0; have r1 := hrs.cell 1; have r2 := hrs.cell 2; have r3 := hrs.cell 3; have r4 := hrs.cell 4; have r5 := hrs.cell 5; have r6 := hrs.cell 6
  have fb := hbx.frozen; have fr := hrs.frozen
  have HB := Lib.hid hB2
  clear hB hB2 hbx hrs p
  go_wp2_with fail
  refine bodyPost_ret (v := .tuple #[.agg (nvc a l c fu lo mo), .slice none 0 0, .int .i64 q]) (by simp [results, Try.results88, go_sem, nvc, r0, r1, r2, r3, r4, r5, r6]) rfl ⟨rfl, two_end HB.out ?_⟩
  repeat (refine Touch.setCell ?_ (by simp) _)
  exact Touch.refl _ _
set_option maxRecDepth 100000 in
set_option maxHeartbeats 1000000 in
theorem rdrop_no (w : World) (a : Nat → Option Addr) (l c : Nat → Nat) (fu lo mo d b i q : Int) (h : RAtNo w a l c fu lo mo d b i q) (hq : (q == 0) = false) :
    Calls Try.prog 89 #[dnv a l c fu lo mo, .int .i64 d, .int .i64 b, .int .i64 i] w (RRes w (dnv a l c fu lo mo) q) := by
  have p := Lib.hid h
  clear h
  have hq' : (q != 0) = true := by simp [bne, hq]
  unfold RAtNo dnv nc at p
  unfold dnv nc
  go_enter Try.func89, Try.ntmps89
  go_wp2_with fail
  refine (p.out _ (((Below.refl _ w).alloc (Nat.le_refl _) _).alloc (by simp) _)).mono ?_
  rintro e w2 ⟨rfl, hB⟩
  obtain ⟨hbx, hrs, hB2⟩ := two_box hB
  have b0 := hbx.cell 0; have b1 := hbx.cell 1; have b2 := hbx.cell 2; have b3 := hbx.cell 3; have b4 := hbx.cell 4; have b5 := hbx.cell 5; have b6 := hbx.cell 6
  have r0 := hrs.cell 0; have r1 := hrs.cell 1; have r2 := hrs.cell 2; have r3 := hrs.cell 3; have r4 := hrs.cell 4; have r5 := hrs.cell 5; have r6 := hrs.cell 6
  have fb := hbx.frozen; have fr := hrs.frozen
  have HB := Lib.hid hB2
  clear hB hB2 hbx hrs p
  go_wp2_with fail
  refine bodyPost_ret (v := .tuple #[.agg (nvc a l c fu lo mo), .int .i64 q]) (by simp [results, Try.results89, go_sem, nvc, r0, r1, r2, r3, r4, r5, r6]) rfl ⟨rfl, two_end HB.out ?_⟩
  repeat (refine Touch.setCell ?_ (by simp) _)
  exact Touch.refl _ _
set_option maxRecDepth 100000 in
set_option maxHeartbeats 1000000 in
theorem rdouble_no (w : World) (a : Nat → Option Addr) (l c : Nat → Nat) (fu lo mo d b i q : Int) (h : RAtNo w a l c fu lo mo d b i q) (hq : (q == 0) = false) :
    Calls Try.prog 90 #[dnv a l c fu lo mo, .int .i64 d, .int .i64 b, .int .i64 i] w (RRes w (dnv a l c fu lo mo) q) := by
  have p := Lib.hid h
  clear h
  have hq' : (q != 0) = true := by simp [bne, hq]
  unfold RAtNo dnv nc at p
  unfold dnv nc
  go_enter Try.func90, Try.ntmps90
  go_wp2_with fail
  refine (p.out _ (((Below.refl _ w).alloc (Nat.le_refl _) _).alloc (by simp) _)).mono ?_
  rintro e w2 ⟨rfl, hB⟩
  obtain ⟨hbx, hrs, hB2⟩ := two_box hB
  have b0 := hbx.cell 0; have b1 := hbx.cell 1; have b2 := hbx.cell 2; have b3 := hbx.cell 3; have b4 := hbx.cell 4; have b5 := hbx.cell 5; have b6 := hbx.cell 6
  have r0 := hrs.cell 0; have r1 := hrs.cell 1; have r2 := hrs.cell 2; have r3 := hrs.cell 3; have r4 := hrs.cell 4; have r5 := hrs.cell 5; have r6 := hrs.cell 6
  have fb := hbx.frozen; have fr := hrs.frozen
  have HB := Lib.hid hB2
  clear hB hB2 hbx hrs p
  go_wp2_with fail
  refine bodyPost_ret (v := .tuple #[.agg (nvc a l c fu lo mo), .int .i64 q]) (by simp [results, Try.results90, go_sem, nvc, r0, r1, r2, r3, r4, r5, r6]) rfl ⟨rfl, two_end HB.out ?_⟩
  repeat (refine Touch.setCell ?_ (by simp) _)
  exact Touch.refl _ _
set_option maxRecDepth 100000 in
set_option maxHeartbeats 1000000 in
theorem rspoil_no (w : World) (a : Nat → Option Addr) (l c : Nat → Nat) (fu lo mo d b i y q : Int) (h : RAtNo w a l c fu lo mo d b (-1) q) (hq : (q == 0) = false) :
    Calls Try.prog 91 #[dnv a l c fu lo mo, .int .i64 d, .int .i64 b, .int .i64 i, .int .u8 y] w (RRes w (dnv a l c fu lo mo) q) := by
  have p := Lib.hid h
  clear h
  have hq' : (q != 0) = true := by simp [bne, hq]
  unfold RAtNo dnv nc at p
  unfold dnv nc
  go_enter Try.func91, Try.ntmps91
  go_wp2_with fail
  refine (p.out _ (((Below.refl _ w).alloc (Nat.le_refl _) _).alloc (by simp) _)).mono ?_
  rintro e w2 ⟨rfl, hB⟩
  obtain ⟨hbx, hrs, hB2⟩ := two_box hB
  have b0 := hbx.cell 0; have b1 := hbx.cell 1; have b2 := hbx.cell 2; have b3 := hbx.cell 3; have b4 := hbx.cell 4; have b5 := hbx.cell 5; have b6 := hbx.cell 6
  have r0 := hrs.cell 0; have r1 := hrs.cell 1; have r2 := hrs.cell 2; have r3 := hrs.cell 3; have r4 := hrs.cell 4; have r5 := hrs.cell 5; have r6 := hrs.cell 6
  have fb := hbx.frozen; have fr := hrs.frozen
  have HB := Lib.hid hB2
  clear hB hB2 hbx hrs p
  go_wp2_with fail
  refine bodyPost_ret (v := .tuple #[.agg (nvc a l c fu lo mo), .int .i64 q]) (by simp [results, Try.results91, go_sem, nvc, r0, r1, r2, r3, r4, r5, r6]) rfl ⟨rfl, two_end HB.out ?_⟩
  repeat (refine Touch.setCell ?_ (by simp) _)
  exact Touch.refl _ _

set_option maxRecDepth 100000 in
set_option maxHeartbeats 4000000 in
theorem rdrop_ok (w : World) (a : Nat → Option Addr) (l c : Nat → Nat) (fu lo mo d b i : Int) (k : Nat) (q : Int) (p : Nat) (es : List E) (h : W4 d b k q) (hi : -9223372036854775808 ≤ i ∧ i ≤ 9223372036854775807) (hp : i % (l k : Int) = p) (hl : 0 < l k) (hl2 : l k ≤ 128)
    (hL : Lst w (.slice (a k) (l k) (c k)) es) (hes : es.length = l k) (hs : Sls es) :
    Calls Try.prog 89 #[dnv a l c fu lo mo, .int .i64 d, .int .i64 b, .int .i64 i] w (RPut w a l c fu lo mo k (es.eraseIdx p) (fun v => .tuple #[v, .int .i64 0])) := by
  have pa' := fun W => rat_some W a l c fu lo mo d b i k q h hl (by omega) hi
  rw [hp] at pa'
  unfold Lst at hL
  rw [hes] at hL
  have pc := Lib.hid (fun W (hb : Below w.heap.size w W) => copied_any W (a k) (l k) (c k) es (p : Int) p hes (hL.below hb (fun g hg => hL.lt g hg)) hs (by omega) (fun i _ => by omega))
  have pa := Lib.hid pa'
  have HES := Lib.hid hes
  clear hL hes hs pa' hp
  unfold dnv nc at pa
  unfold dnv nc
  rcases h with ⟨rfl, rfl, rfl, rfl⟩ | ⟨rfl, rfl, rfl, rfl⟩ | ⟨rfl, rfl, rfl, rfl⟩ | ⟨rfl, rfl, rfl, rfl⟩
  · go_enter Try.func89, Try.ntmps89
    go_wp2_with fail
    refine (pa.out _).mono ?_
    rintro e w2 ⟨rfl, hB⟩
    obtain ⟨hbx, hrs, hB2⟩ := two_box hB
    have b0 := hbx.cell 0
    have HBX := Lib.hid hbx
    have HRS := Lib.hid hrs
    have HB := Lib.hid hB2
    clear hB hB2 hbx hrs pa
    go_wp2_with fail
    refine (pc.out _ HB.out).mono ?_
    rintro e w3 ⟨xa, xc, rfl, hL3, hown3, hB3⟩
    obtain ⟨n, hn⟩ : ∃ n, n = (es.eraseIdx p).length := ⟨_, rfl⟩
    rw [← hn] at hL3 hown3 ⊢
    have hbx := HBX.out.below hB3 HBX.out.lt
    have hrs := HRS.out.below hB3 HRS.out.lt
    have b0 := hbx.cell 0; have b1 := hbx.cell 1; have b2 := hbx.cell 2; have b3 := hbx.cell 3; have b4 := hbx.cell 4; have b5 := hbx.cell 5; have b6 := hbx.cell 6
    have r0 := hrs.cell 0; have r1 := hrs.cell 1; have r2 := hrs.cell 2; have r3 := hrs.cell 3; have r4 := hrs.cell 4; have r5 := hrs.cell 5; have r6 := hrs.cell 6
    have fb := hbx.frozen; have fr := hrs.frozen
    have HN := Lib.hid hn
    have HL3 := Lib.hid hL3
    have HO3 := Lib.hid (show ∀ g, (Value.slice xa n xc).ownBlock = some g → w.heap.size + 2 ≤ g from fun g hg => by have := hown3 g hg; have := HRS.out.lt; omega)
    have HB3 := Lib.hid (HB.out.trans (hB3.mono HB.out.size))
    clear hbx hrs hB3 hL3 hown3 hn pc
    go_wp2_with fail
    refine bodyPost_ret (v := .tuple #[dnv (upd a 0 xa) (upd l 0 n) (upd c 0 xc) fu lo mo, .int .i64 0]) (by simp [results, Try.results89, go_sem, dnv, nc, upd, r0, r1, r2, r3, r4, r5, r6]) rfl ?_
    have hL4 := HL3.out
    have hO4 := HO3.out
    rw [HN.out] at hL4 hO4 ⊢
    refine rput_fin HB3.out hL4 hO4 ?_ rfl
    repeat (refine Touch.setCell ?_ (by simp) _)
    exact Touch.refl _ _
  · go_enter Try.func89, Try.ntmps89
    go_wp2_with fail
    refine (pa.out _).mono ?_
    rintro e w2 ⟨rfl, hB⟩
    obtain ⟨hbx, hrs, hB2⟩ := two_box hB
    have b0 := hbx.cell 1
    have HBX := Lib.hid hbx
    have HRS := Lib.hid hrs
    have HB := Lib.hid hB2
    clear hB hB2 hbx hrs pa
    go_wp2_with fail
    refine (pc.out _ HB.out).mono ?_
    rintro e w3 ⟨xa, xc, rfl, hL3, hown3, hB3⟩
    obtain ⟨n, hn⟩ : ∃ n, n = (es.eraseIdx p).length := ⟨_, rfl⟩
    rw [← hn] at hL3 hown3 ⊢
    have hbx := HBX.out.below hB3 HBX.out.lt
    have hrs := HRS.out.below hB3 HRS.out.lt
    have b0 := hbx.cell 0; have b1 := hbx.cell 1; have b2 := hbx.cell 2; have b3 := hbx.cell 3; have b4 := hbx.cell 4; have b5 := hbx.cell 5; have b6 := hbx.cell 6
    have r0 := hrs.cell 0; have r1 := hrs.cell 1; have r2 := hrs.cell 2; have r3 := hrs.cell 3; have r4 := hrs.cell 4; have r5 := hrs.cell 5; have r6 := hrs.cell 6
    have fb := hbx.frozen; have fr := hrs.frozen
    have HN := Lib.hid hn
    have HL3 := Lib.hid hL3
    have HO3 := Lib.hid (show ∀ g, (Value.slice xa n xc).ownBlock = some g → w.heap.size + 2 ≤ g from fun g hg => by have := hown3 g hg; have := HRS.out.lt; omega)
    have HB3 := Lib.hid (HB.out.trans (hB3.mono HB.out.size))
    clear hbx hrs hB3 hL3 hown3 hn pc
    go_wp2_with fail
    refine bodyPost_ret (v := .tuple #[dnv (upd a 1 xa) (upd l 1 n) (upd c 1 xc) fu lo mo, .int .i64 0]) (by simp [results, Try.results89, go_sem, dnv, nc, upd, r0, r1, r2, r3, r4, r5, r6]) rfl ?_
    have hL4 := HL3.out
    have hO4 := HO3.out
    rw [HN.out] at hL4 hO4 ⊢
    refine rput_fin HB3.out hL4 hO4 ?_ rfl
    repeat (refine Touch.setCell ?_ (by simp) _)
    exact Touch.refl _ _
  · go_enter Try.func89, Try.ntmps89
    go_wp2_with fail
    refine (pa.out _).mono ?_
    rintro e w2 ⟨rfl, hB⟩
    obtain ⟨hbx, hrs, hB2⟩ := two_box hB
    have b0 := hbx.cell 2
    have HBX := Lib.hid hbx
    have HRS := Lib.hid hrs
    have HB := Lib.hid hB2
    clear hB hB2 hbx hrs pa
    go_wp2_with fail
    refine (pc.out _ HB.out).mono ?_
    rintro e w3 ⟨xa, xc, rfl, hL3, hown3, hB3⟩
    obtain ⟨n, hn⟩ : ∃ n, n = (es.eraseIdx p).length := ⟨_, rfl⟩
    rw [← hn] at hL3 hown3 ⊢
    have hbx := HBX.out.below hB3 HBX.out.lt
    have hrs := HRS.out.below hB3 HRS.out.lt
    have b0 := hbx.cell 0; have b1 := hbx.cell 1; have b2 := hbx.cell 2; have b3 := hbx.cell 3; have b4 := hbx.cell 4; have b5 := hbx.cell 5; have b6 := hbx.cell 6
    have r0 := hrs.cell 0; have r1 := hrs.cell 1; have r2 := hrs.cell 2; have r3 := hrs.cell 3; have r4 := hrs.cell 4; have r5 := hrs.cell 5; have r6 := hrs.cell 6
    have fb := hbx.frozen; have fr := hrs.frozen
    have HN := Lib.hid hn
    have HL3 := Lib.hid hL3
    have HO3 := Lib.hid (show ∀ g, (Value.slice xa n xc).ownBlock = some g → w.heap.size + 2 ≤ g from fun g hg => by have := hown3 g hg; have := HRS.out.lt; omega)
    have HB3 := Lib.hid (HB.out.trans (hB3.mono HB.out.size))
    clear hbx hrs hB3 hL3 hown3 hn pc
    go_wp2_with fail
    refine bodyPost_ret (v := .tuple #[dnv (upd a 2 xa) (upd l 2 n) (upd c 2 xc) fu lo mo, .int .i64 0]) (by simp [results, Try.results89, go_sem, dnv, nc, upd, r0, r1, r2, r3, r4, r5, r6]) rfl ?_
    have hL4 := HL3.out
    have hO4 := HO3.out
    rw [HN.out] at hL4 hO4 ⊢
    refine rput_fin HB3.out hL4 hO4 ?_ rfl
    repeat (refine Touch.setCell ?_ (by simp) _)
    exact Touch.refl _ _
  · go_enter Try.func89, Try.ntmps89
    go_wp2_with fail
    refine (pa.out _).mono ?_
    rintro e w2 ⟨rfl, hB⟩
    obtain ⟨hbx, hrs, hB2⟩ := two_box hB
    have b0 := hbx.cell 3
    have HBX := Lib.hid hbx
    have HRS := Lib.hid hrs
    have HB := Lib.hid hB2
    clear hB hB2 hbx hrs pa
    go_wp2_with fail
    refine (pc.out _ HB.out).mono ?_
    rintro e w3 ⟨xa, xc, rfl, hL3, hown3, hB3⟩
    obtain ⟨n, hn⟩ : ∃ n, n = (es.eraseIdx p).length := ⟨_, rfl⟩
    rw [← hn] at hL3 hown3 ⊢
    have hbx := HBX.out.below hB3 HBX.out.lt
    have hrs := HRS.out.below hB3 HRS.out.lt
    have b0 := hbx.cell 0; have b1 := hbx.cell 1; have b2 := hbx.cell 2; have b3 := hbx.cell 3; have b4 := hbx.cell 4; have b5 := hbx.cell 5; have b6 := hbx.cell 6
    have r0 := hrs.cell 0; have r1 := hrs.cell 1; have r2 := hrs.cell 2; have r3 := hrs.cell 3; have r4 := hrs.cell 4; have r5 := hrs.cell 5; have r6 := hrs.cell 6
    have fb := hbx.frozen; have fr := hrs.frozen
    have HN := Lib.hid hn
    have HL3 := Lib.hid hL3
    have HO3 := Lib.hid (show ∀ g, (Value.slice xa n xc).ownBlock = some g → w.heap.size + 2 ≤ g from fun g hg => by have := hown3 g hg; have := HRS.out.lt; omega)
    have HB3 := Lib.hid (HB.out.trans (hB3.mono HB.out.size))
    clear hbx hrs hB3 hL3 hown3 hn pc
    go_wp2_with fail
    refine bodyPost_ret (v := .tuple #[dnv (upd a 3 xa) (upd l 3 n) (upd c 3 xc) fu lo mo, .int .i64 0]) (by simp [results, Try.results89, go_sem, dnv, nc, upd, r0, r1, r2, r3, r4, r5, r6]) rfl ?_
    have hL4 := HL3.out
    have hO4 := HO3.out
    rw [HN.out] at hL4 hO4 ⊢
    refine rput_fin HB3.out hL4 hO4 ?_ rfl
    repeat (refine Touch.setCell ?_ (by simp) _)
    exact Touch.refl _ _
end Go.Proofs.Ytmceaffoffemlaa.Netw
