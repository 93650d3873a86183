/-
  backstaylaw29.same: it says yes where the program's net and the document's hold the same. Conditions: numbers without overflow.
-/
import Derived.Test.YtmceaffoffemlaaNetV
import Derived.Test.YtmceaffoffemlaaNetN
import Derived.Test.YtmceaffoffemlaaNetG
import Derived.Test.YtmceaffoffemlaaRquiet
import Derived.Lib.QuietBelow
namespace Go.Proofs.Ytmceaffoffemlaa.Netw
open Go.RowKit Go.Shelf Go.Sort
set_option linter.all false
attribute [local go_sem] Oper.semAt_some

/-- The marks that ranges left. -/
def Marks (b : Nat) (ds : List Deferred) (W : World) : Prop := ∃ Ds : List Nat, ds = Ds.map (fun D => ({ target := .collected D, args := #[] } : Deferred)) ∧ Ds.Nodup ∧ ∀ D ∈ Ds, b ≤ D ∧ W.heap[D]? = some (.deferred (some []))
theorem Marks.nil (b : Nat) (W : World) : Marks b [] W := ⟨[], rfl, List.nodup_nil, fun _ h => by cases h⟩
theorem Marks.keep {b : Nat} {ds : List Deferred} {W W' : World} (h : Marks b ds W) (hk : ∀ k o, b ≤ k → W.heap[k]? = some o → o.isCells = false → W'.heap[k]? = some o) : Marks b ds W' := by
  obtain ⟨Ds, h1, h2, h3⟩ := h
  exact ⟨Ds, h1, h2, fun D hD => ⟨(h3 D hD).1, hk D _ (h3 D hD).1 (h3 D hD).2 rfl⟩⟩
theorem Marks.cons {b D : Nat} {ds : List Deferred} {W W0 : World} (h : Marks b ds W) (h0 : Marks b ds W0) (hD0 : W0.heap.size ≤ D) (hb : b ≤ D) (hd : W.heap[D]? = some (.deferred (some []))) : Marks b ({ target := .collected D, args := #[] } :: ds) W := by
  obtain ⟨Ds, h1, h2, h3⟩ := h
  obtain ⟨Ds0, e1, _, e3⟩ := h0
  have hds : Ds0 = Ds := by
    refine (List.map_inj_right (f := fun D : Nat => ({ target := .collected D, args := #[] } : Deferred)) (fun x y h => ?_)).1 (e1.symm.trans h1)
    have := congrArg Deferred.target h
    simpa using this
  refine ⟨D :: Ds, by rw [h1]; rfl, List.nodup_cons.2 ⟨fun hm => ?_, h2⟩, fun D' hD' => ?_⟩
  · rw [← hds] at hm
    have := (Array.getElem?_eq_some_iff.1 (e3 D hm).2).1
    omega
  · rcases List.mem_cons.1 hD' with rfl | hm
    · exact ⟨hb, hd⟩
    · exact h3 D' hm
theorem leaves_marks {F : Fence} {n : Nat} {P : Program} {fn : Func} {tmps : Array Value} {R : Ending → World → Prop} {b : Nat} : ∀ (ds : List Deferred) (W : World), Marks b ds W → (∀ W', Below b W W' → LeavesInM F n P fn tmps R [] .returning W') → LeavesInM F n P fn tmps R ds .returning W := by
  intro ds
  induction ds with
  | nil => intro W _ h; exact h W (Below.refl _ _)
  | cons d ds ih =>
    rintro W ⟨Ds, h1, h2, h3⟩ h
    cases Ds with
    | nil => cases h1
    | cons D Ds =>
      simp only [List.map_cons, List.cons.injEq] at h1
      obtain ⟨rfl, h1⟩ := h1
      obtain ⟨hb, hd⟩ := h3 D (List.mem_cons_self)
      refine ⟨by simp, .inl ⟨_, _, rfl, run_takeDeferred hd, ?_⟩⟩
      refine ih _ ⟨Ds, h1, (List.nodup_cons.1 h2).2, fun D' hD' => ?_⟩ (fun W' hb' => h W' ((belowB_put hb W _).trans hb'))
      have hne : D' ≠ D := fun e => (List.nodup_cons.1 h2).1 (e ▸ hD')
      exact ⟨(h3 D' (List.mem_cons_of_mem _ hD')).1, (World.putObj_heap_other hne).trans (h3 D' (List.mem_cons_of_mem _ hD')).2⟩
theorem regrown {P : Program} {f : FuncId} {args : Array Value} {v : Value} (w : World)
    (h : ∀ W, Below w.heap.size w W → Calls P f args W fun e W' => e = .returned v ∧ Below W.heap.size W W') (d : Nat) (os : Array Obj) :
    Calls P f args (grow (redrawn w d) os) fun e w'' => e = .returned v ∧ ∃ p : Regrown, w'' = grow (redrawn w p.d) p.os := Calls.regrown_of (h _ (below_regrown w d os))
/-- How many lie on the first k ways. -/
def sumLen (m : MN) : Nat → Int
  | 0 => 0
  | k + 1 => sumLen m k + ((m.L k).length : Int)
theorem len_in' (w : World) (n : Nat) (d b l c : Nat) (a : Option Addr) (ht : d < 2) (hb : b < 2) (h : w.cell? ⟨n, 2 * d + b, none⟩ = some (.slice a l c)) :
    Calls Try.prog 15 #[.pointer (some ⟨n, 0, none⟩), .int .i64 d, .int .i64 b] w fun e w' => e = .returned (.int .i64 l) ∧ w' = w := (len_in w n d b l c a ht hb h).mono fun e w' ⟨h1, h2⟩ => ⟨h1, h2.symm⟩
set_option maxRecDepth 100000 in
set_option maxHeartbeats 2000000 in
theorem same_bytesQ (w : World) (a b : Option Addr) (l c c' : Nat) (zs : List Int) (ha : Row .u8 w a l zs) (hb : Row .u8 w b l zs) (hl : l ≤ 9223372036854775807) :
    Calls Try.prog 14 #[.slice a l c, .slice b l c'] w fun e w' => e = .returned (.bool true) ∧ ∃ nn, w' = w.drewN nn := by
  go_enter Try.func14, Try.ntmps14
  go_wp2_with fail
  go_loopw [5] (fun i wr => ∃ k : Nat, k ≤ l ∧ i = .int .i64 k ∧ ∃ nn, wr = w.drewN nn) (fun i _ => l - (intOf i).toNat)
  case atStart => exact ⟨0, Nat.zero_le _, rfl, 0, rfl⟩
  case round =>
    obtain ⟨k, hk, rfl, nn, rfl⟩ := hrel
    by_cases hlt : k < l
    · obtain ⟨ga, oa, rfl, hga, ca⟩ := ha.2 (by omega)
      obtain ⟨gb, ob, rfl, hgb, cb⟩ := hb.2 (by omega)
      have r1 := ca k hlt
      have r2 := cb k hlt
      have i1 : (0 : Int) ≤ (k : Int) := by omega
      have i2 : (k : Int) < (l : Int) := by omega
      clear ca cb ha hb
      generalize nth zs k = vv at r1 r2
      go_wp2_with fail
      go_quiet (fail)
      go_wp2_with fail
      go_roundw
      case rel => exact ⟨k + 1, by omega, by go_num, _, rfl⟩
      case measure => simp [intOf]; omega
    · obtain rfl : k = l := by omega
      go_wp2_with fail
      go_ret
      exact ⟨rfl, _, rfl⟩
theorem count_any (w : World) (n : Nat) (s : NS) (h : NAt w n s) :
    (Calls Try.prog 94 #[.pointer (some ⟨n, 0, none⟩)] w fun e w' => e = .returned (.int .i64 s.full) ∧ w = w') ∧
    (Calls Try.prog 95 #[.pointer (some ⟨n, 0, none⟩)] w fun e w' => e = .returned (.int .i64 s.long) ∧ w = w') ∧
    (Calls Try.prog 96 #[.pointer (some ⟨n, 0, none⟩)] w fun e w' => e = .returned (.int .i64 s.moved) ∧ w = w') := by
  have c4 : w.cell? ⟨n, 4, none⟩ = some (.int .i64 s.full) := (h.box.cell 4).trans rfl
  have c5 : w.cell? ⟨n, 5, none⟩ = some (.int .i64 s.long) := (h.box.cell 5).trans rfl
  have c6 : w.cell? ⟨n, 6, none⟩ = some (.int .i64 s.moved) := (h.box.cell 6).trans rfl
  clear h
  refine ⟨?_, ?_, ?_⟩
  · go_enter Try.func94, Try.ntmps94
    go_wp2_with fail
    go_ret
    exact ⟨rfl, rfl⟩
  · go_enter Try.func95, Try.ntmps95
    go_wp2_with fail
    go_ret
    exact ⟨rfl, rfl⟩
  · go_enter Try.func96, Try.ntmps96
    go_wp2_with fail
    go_ret
    exact ⟨rfl, rfl⟩
/-- What a round of same's loop finds. -/
structure SI (w : World) (m : MN) (a : Nat → Option Addr) (l c : Nat → Nat) (k : Nat) (v5 v6 : Value) (ds : List Deferred) (W : World) : Prop where
  k4 : k ≤ 4
  v5 : v5 = .int .i64 (sumLen m k)
  v6 : ∃ g, v6 = .pointer (some ⟨g, 0, none⟩) ∧ w.heap.size + 2 ≤ g ∧ Blk W g 3 #[.int .i64 (k : Int)]
  box : Blk W w.heap.size 71 (nvc a l c m.full m.long m.moved)
  res : Blk W (w.heap.size + 1) 4 #[.bool false]
  below : Below w.heap.size w W
  marks : Marks (w.heap.size + 2) ds W
set_option maxRecDepth 100000 in
set_option maxHeartbeats 8000000 in
theorem same_any (w : World) (B n : Nat) (s : NS) (a : Nat → Option Addr) (l c : Nat → Nat) (es : Nat → List E) (m : MN) (cm : Int) (hP : PN w B n s m) (hD : DN w (Own s n) a l c es m) (hm : MOk m cm) (hcm : cm ≤ 1000000) :
    Calls Try.prog 76 #[.pointer (some ⟨n, 0, none⟩), dnv a l c m.full m.long m.moved] w fun e w' => e = .returned (.bool true) ∧ Below w.heap.size w w' := by
  refine calls_of_wp_marks 9 Try.func76 rfl ?_
  simp only [Try.ntmps76, List.size_toArray, List.length_cons, List.length_nil, Nat.reduceAdd, Nat.reduceSub, Array.replicate_succ, Array.replicate_zero, List.push_toArray, List.append_toArray, List.nil_append, List.cons_append]
  have HP := Lib.hid hP
  have HD := Lib.hid hD
  have HM := Lib.hid hm
  have hnf : ∀ (f : FuncId) (cs : Array Value) (W : World), Sem.run Try.prog (binOp .eql 76 (.func (.func f) #[] cs) .nilFunc) W = .ok (.bool false) W := by
    intro f cs W
    have h : ∀ d : Nat, Sem.run Try.prog (Op.equalIn (d + 1) 76 (.func (.func f) #[] cs) .nilFunc) W = .ok false W := fun d => by
      simp [Op.equalIn, run_underlying Try.underlying76, go_sem]
    have h' := h (Op.maxDepth - 1)
    simp only [binOp, Op.equal]
    rw [Sem.run_bind]
    erw [h']
    rfl
  clear hP hD hm
  unfold dnv nc
  go_wp2_with fail
  obtain ⟨W0, hW0⟩ : ∃ W0, W0 = (((w.alloc (.cells (nvc a l c m.full m.long m.moved) 71)).alloc (.cells #[.bool false] 4)).alloc (.cells #[.int .i64 0] 3)) := ⟨_, rfl⟩
  have hB0 : Below w.heap.size w W0 := by rw [hW0]; exact (((Below.refl _ w).alloc (Nat.le_refl _) _).alloc (by simp) _).alloc (by simp; omega) _
  have k0 : Blk W0 w.heap.size 71 (nvc a l c m.full m.long m.moved) := by rw [hW0]; exact ((Blk.new w _ _).alloc _).alloc _
  have k1 : Blk W0 (w.heap.size + 1) 4 #[.bool false] := by
    have := (Blk.new (w.alloc (.cells (nvc a l c m.full m.long m.moved) 71)) 4 #[.bool false]).alloc (.cells #[.int .i64 0] 3)
    rw [World.size_alloc] at this; rw [hW0]; exact this
  have k2 : Blk W0 (w.heap.size + 1 + 1) 3 #[.int .i64 0] := by
    have := Blk.new ((w.alloc (.cells (nvc a l c m.full m.long m.moved) 71)).alloc (.cells #[.bool false] 4)) 3 #[.int .i64 0]
    rw [World.size_alloc, World.size_alloc] at this; rw [hW0]; exact this
  unfold nvc at hW0
  rw [← hW0]
  clear hW0
  refine wp_loop_ghost_k (fun (gk : Nat) (a' : Act) (W : World) => ∃ (ds : List Deferred) (u5 u6 u7 u8 u9 u10 u11 u12 u13 u14 u15 u16 u17 u18 u19 u20 u21 u22 u23 u24 u25 u26 u27 u28 u29 u30 u31 u32 u33 u34 u35 u36 u37 u38 u39 u40 u41 u42 u43 u44 u45 u46 u47 u48 u49 u50 u51 u52 u53 u54 u55 u56 u57 u58 u59 u60 u61 u62 u63 u64 u65 u66 u67 u68 u69 u70 u71 u72 u73 u74 u75 u76 u77 u78 u79 u80 u81 u82 u83 u84 u85 u86 u87 u88 u89 u90 u91 u92 u93 u94 u95 u96 u97 u98 u99 u100 u101 u102 u103 u104 u105 u106 u107 u108 u109 u110 u111 u112 u113 u114 u115 u116 u117 u118 u119 u120 u121 u122 u123 u124 u125 u126 u127 u128 : Value), (∃ k, gk = 4 - k ∧ SI w m a l c k u5 u6 ds W) ∧ a' = { tmps := #[.pointer (some ⟨n, 0, none⟩), .agg #[.slice (a 0) (l 0) (c 0), .slice (a 1) (l 1) (c 1), .slice (a 2) (l 2) (c 2), .slice (a 3) (l 3) (c 3), .int .i64 m.full, .int .i64 m.long, .int .i64 m.moved], undef, .pointer (some ⟨w.heap.size, 0, none⟩), .pointer (some ⟨w.heap.size + 1, 0, none⟩), u5, u6, u7, u8, u9, u10, u11, u12, u13, u14, u15, u16, u17, u18, u19, u20, u21, u22, u23, u24, u25, u26, u27, u28, u29, u30, u31, u32, u33, u34, u35, u36, u37, u38, u39, u40, u41, u42, u43, u44, u45, u46, u47, u48, u49, u50, u51, u52, u53, u54, u55, u56, u57, u58, u59, u60, u61, u62, u63, u64, u65, u66, u67, u68, u69, u70, u71, u72, u73, u74, u75, u76, u77, u78, u79, u80, u81, u82, u83, u84, u85, u86, u87, u88, u89, u90, u91, u92, u93, u94, u95, u96, u97, u98, u99, u100, u101, u102, u103, u104, u105, u106, u107, u108, u109, u110, u111, u112, u113, u114, u115, u116, u117, u118, u119, u120, u121, u122, u123, u124, u125, u126, u127, u128], defers := ds }) 4 ?_ ?_
  · (repeat apply Exists.intro)
    refine ⟨?_, rfl⟩
    exact ⟨0, rfl, ⟨by omega, rfl, ⟨_, rfl, by omega, k2⟩, k0, k1, hB0, Marks.nil _ _⟩⟩
  · intro gk aa wr hinv J K hJ hK
    clear hB0 k0 k1 k2
    obtain ⟨ds, hinv⟩ := hinv
    obtain ⟨u5, hinv⟩ := hinv
    obtain ⟨u6, hinv⟩ := hinv
    obtain ⟨u7, hinv⟩ := hinv
    obtain ⟨u8, hinv⟩ := hinv
    obtain ⟨u9, hinv⟩ := hinv
    obtain ⟨u10, hinv⟩ := hinv
    obtain ⟨u11, hinv⟩ := hinv
    obtain ⟨u12, hinv⟩ := hinv
    obtain ⟨u13, hinv⟩ := hinv
    obtain ⟨u14, hinv⟩ := hinv
    obtain ⟨u15, hinv⟩ := hinv
    obtain ⟨u16, hinv⟩ := hinv
    obtain ⟨u17, hinv⟩ := hinv
    obtain ⟨u18, hinv⟩ := hinv
    obtain ⟨u19, hinv⟩ := hinv
    obtain ⟨u20, hinv⟩ := hinv
    obtain ⟨u21, hinv⟩ := hinv
    obtain ⟨u22, hinv⟩ := hinv
    obtain ⟨u23, hinv⟩ := hinv
    obtain ⟨u24, hinv⟩ := hinv
    obtain ⟨u25, hinv⟩ := hinv
    obtain ⟨u26, hinv⟩ := hinv
    obtain ⟨u27, hinv⟩ := hinv
    obtain ⟨u28, hinv⟩ := hinv
    obtain ⟨u29, hinv⟩ := hinv
    obtain ⟨u30, hinv⟩ := hinv
    obtain ⟨u31, hinv⟩ := hinv
    obtain ⟨u32, hinv⟩ := hinv
    obtain ⟨u33, hinv⟩ := hinv
    obtain ⟨u34, hinv⟩ := hinv
    obtain ⟨u35, hinv⟩ := hinv
    obtain ⟨u36, hinv⟩ := hinv
    obtain ⟨u37, hinv⟩ := hinv
    obtain ⟨u38, hinv⟩ := hinv
    obtain ⟨u39, hinv⟩ := hinv
    obtain ⟨u40, hinv⟩ := hinv
    obtain ⟨u41, hinv⟩ := hinv
    obtain ⟨u42, hinv⟩ := hinv
    obtain ⟨u43, hinv⟩ := hinv
    obtain ⟨u44, hinv⟩ := hinv
    obtain ⟨u45, hinv⟩ := hinv
    obtain ⟨u46, hinv⟩ := hinv
    obtain ⟨u47, hinv⟩ := hinv
    obtain ⟨u48, hinv⟩ := hinv
    obtain ⟨u49, hinv⟩ := hinv
    obtain ⟨u50, hinv⟩ := hinv
    obtain ⟨u51, hinv⟩ := hinv
    obtain ⟨u52, hinv⟩ := hinv
    obtain ⟨u53, hinv⟩ := hinv
    obtain ⟨u54, hinv⟩ := hinv
    obtain ⟨u55, hinv⟩ := hinv
    obtain ⟨u56, hinv⟩ := hinv
    obtain ⟨u57, hinv⟩ := hinv
    obtain ⟨u58, hinv⟩ := hinv
    obtain ⟨u59, hinv⟩ := hinv
    obtain ⟨u60, hinv⟩ := hinv
    obtain ⟨u61, hinv⟩ := hinv
    obtain ⟨u62, hinv⟩ := hinv
    obtain ⟨u63, hinv⟩ := hinv
    obtain ⟨u64, hinv⟩ := hinv
    obtain ⟨u65, hinv⟩ := hinv
    obtain ⟨u66, hinv⟩ := hinv
    obtain ⟨u67, hinv⟩ := hinv
    obtain ⟨u68, hinv⟩ := hinv
    obtain ⟨u69, hinv⟩ := hinv
    obtain ⟨u70, hinv⟩ := hinv
    obtain ⟨u71, hinv⟩ := hinv
    obtain ⟨u72, hinv⟩ := hinv
    obtain ⟨u73, hinv⟩ := hinv
    obtain ⟨u74, hinv⟩ := hinv
    obtain ⟨u75, hinv⟩ := hinv
    obtain ⟨u76, hinv⟩ := hinv
    obtain ⟨u77, hinv⟩ := hinv
    obtain ⟨u78, hinv⟩ := hinv
    obtain ⟨u79, hinv⟩ := hinv
    obtain ⟨u80, hinv⟩ := hinv
    obtain ⟨u81, hinv⟩ := hinv
    obtain ⟨u82, hinv⟩ := hinv
    obtain ⟨u83, hinv⟩ := hinv
    obtain ⟨u84, hinv⟩ := hinv
    obtain ⟨u85, hinv⟩ := hinv
    obtain ⟨u86, hinv⟩ := hinv
    obtain ⟨u87, hinv⟩ := hinv
    obtain ⟨u88, hinv⟩ := hinv
    obtain ⟨u89, hinv⟩ := hinv
    obtain ⟨u90, hinv⟩ := hinv
    obtain ⟨u91, hinv⟩ := hinv
    obtain ⟨u92, hinv⟩ := hinv
    obtain ⟨u93, hinv⟩ := hinv
    obtain ⟨u94, hinv⟩ := hinv
    obtain ⟨u95, hinv⟩ := hinv
    obtain ⟨u96, hinv⟩ := hinv
    obtain ⟨u97, hinv⟩ := hinv
    obtain ⟨u98, hinv⟩ := hinv
    obtain ⟨u99, hinv⟩ := hinv
    obtain ⟨u100, hinv⟩ := hinv
    obtain ⟨u101, hinv⟩ := hinv
    obtain ⟨u102, hinv⟩ := hinv
    obtain ⟨u103, hinv⟩ := hinv
    obtain ⟨u104, hinv⟩ := hinv
    obtain ⟨u105, hinv⟩ := hinv
    obtain ⟨u106, hinv⟩ := hinv
    obtain ⟨u107, hinv⟩ := hinv
    obtain ⟨u108, hinv⟩ := hinv
    obtain ⟨u109, hinv⟩ := hinv
    obtain ⟨u110, hinv⟩ := hinv
    obtain ⟨u111, hinv⟩ := hinv
    obtain ⟨u112, hinv⟩ := hinv
    obtain ⟨u113, hinv⟩ := hinv
    obtain ⟨u114, hinv⟩ := hinv
    obtain ⟨u115, hinv⟩ := hinv
    obtain ⟨u116, hinv⟩ := hinv
    obtain ⟨u117, hinv⟩ := hinv
    obtain ⟨u118, hinv⟩ := hinv
    obtain ⟨u119, hinv⟩ := hinv
    obtain ⟨u120, hinv⟩ := hinv
    obtain ⟨u121, hinv⟩ := hinv
    obtain ⟨u122, hinv⟩ := hinv
    obtain ⟨u123, hinv⟩ := hinv
    obtain ⟨u124, hinv⟩ := hinv
    obtain ⟨u125, hinv⟩ := hinv
    obtain ⟨u126, hinv⟩ := hinv
    obtain ⟨u127, hinv⟩ := hinv
    obtain ⟨u128, hinv⟩ := hinv
    obtain ⟨hrel, ha⟩ := hinv
    subst ha
    try dsimp only
    obtain ⟨k, rfl, hI⟩ := hrel
    obtain ⟨g6, rfl, hg6, hb6⟩ := hI.v6
    obtain rfl := hI.v5
    have hsl : 0 ≤ sumLen m k ∧ sumLen m k ≤ 128 * (k : Int) := by
      have : ∀ j : Nat, j ≤ 4 → 0 ≤ sumLen m j ∧ sumLen m j ≤ 128 * (j : Int) := by
        intro j
        induction j with
        | zero => intro _; simp [sumLen]
        | succ j ih =>
          intro hj
          have := ih (by omega)
          have := HM.out.len j (by omega)
          simp only [sumLen]
          push_cast
          omega
      exact this k hI.k4
    have hk4 := hI.k4
    have HSL := Lib.hid hsl
    by_cases hlt : k < 4
    · obtain rfl | rfl | rfl | rfl : k = 0 ∨ k = 1 ∨ k = 2 ∨ k = 3 := by omega
      · have c6 : wr.cell? ⟨g6, 0, none⟩ = some (.int .i64 0) := hb6.cell 0
        obtain ⟨sl, hsle⟩ : ∃ sl, sl = sumLen m 0 := ⟨_, rfl⟩
        have hs1 := hsl.1
        have hs2 := hsl.2
        rw [← hsle] at hs1 hs2 ⊢
        have HSE := Lib.hid hsle
        have HI := Lib.hid hI
        have HB6 := Lib.hid hb6
        have pA := Lib.hid (fun W => all_any W n 0 0)
        clear hsl hsle hI hb6 hlt hk4
        go_wp2_with fail
        go_quiet (fail)
        obtain ⟨V, hV⟩ : ∃ V, V = wr.drewN nq := ⟨_, rfl⟩
        have hBV : Below wr.heap.size wr V := by rw [hV]; exact below_drewN (Below.refl _ _) _
        have hzV : V.heap.size = wr.heap.size := by rw [hV]; rfl
        rw [← hV]
        clear hV
        go_wp2_with fail
        refine (pA.out _).mono ?_
        rintro e w' ⟨rfl, rfl⟩
        obtain ⟨W, hW⟩ : ∃ W, W = (((V.alloc (.cells #[.pointer (some ⟨n, 0, none⟩)] 25)).alloc (.cells #[.int .i64 0] 3)).alloc (.cells #[.int .i64 0] 3)) := ⟨_, rfl⟩
        have hBW : Below V.heap.size V W := by rw [hW]; exact (((Below.refl _ V).alloc (Nat.le_refl _) _).alloc (by simp) _).alloc (by simp; omega) _
        have hzW : W.heap.size = V.heap.size + 3 := by rw [hW]; simp
        have t1 : Blk W V.heap.size 25 #[.pointer (some ⟨n, 0, none⟩)] := by rw [hW]; exact ((Blk.new V _ _).alloc _).alloc _
        have t2 : Blk W (V.heap.size + 1) 3 #[.int .i64 0] := by
          have := (Blk.new (V.alloc (.cells #[.pointer (some ⟨n, 0, none⟩)] 25)) 3 #[.int .i64 0]).alloc (.cells #[.int .i64 0] 3)
          rw [World.size_alloc] at this; rw [hW]; exact this
        have t3 : Blk W (V.heap.size + 2) 3 #[.int .i64 0] := by
          have := Blk.new ((V.alloc (.cells #[.pointer (some ⟨n, 0, none⟩)] 25)).alloc (.cells #[.int .i64 0] 3)) 3 #[.int .i64 0]
          rw [World.size_alloc, World.size_alloc] at this; rw [hW]; exact this
        rw [← hW]
        have hwr : Below w.heap.size w wr := HI.out.below
        have hzr : w.heap.size ≤ wr.heap.size := hwr.size
        have hB1 : Below wr.heap.size wr W := hBV.trans (hBW.mono (by omega))
        have hBw : Below w.heap.size w W := hwr.trans (hB1.mono hzr)
        have hbx := HI.out.box.below hB1 HI.out.box.lt
        have hrs := HI.out.res.below hB1 HI.out.res.lt
        have h6 := HB6.out.below hB1 HB6.out.lt
        have hPW := HP.out.below hBw
        have hDW := HD.out.below hBw
        have hmk : Marks (w.heap.size + 2) ds W := HI.out.marks.keep (fun q o hq ho _ => (hB1.block q (Array.getElem?_eq_some_iff.1 ho).1).trans ho)
        obtain ⟨pa, pcp, _, hpc⟩ := hPW.net.slice (k := 0) (by omega)
        have hlen1 := hPW.len 0 (by omega)
        have hlen2 := (hDW.ln 0 (by omega)).trans (hDW.len 0 (by omega))
        have h128 := HM.out.len 0 (by omega)
        obtain ⟨L, hL⟩ : ∃ L, L = m.L 0 := ⟨_, rfl⟩
        rw [← hL] at hlen1 hlen2 h128
        rw [hlen1] at hpc
        have pL := Lib.hid (fun j => len_in' (W.drewN j) n 0 0 L.length pcp pa (by omega) (by omega) (by exact hpc))
        have c6 : W.cell? ⟨g6, 0, none⟩ = some (.int .i64 0) := h6.cell 0
        have cb : W.cell? ⟨w.heap.size, 0, none⟩ = some (.slice (a 0) L.length (c 0)) := (hbx.cell 0).trans (by show some (Value.slice (a 0) (l 0) (c 0)) = _; rw [hlen2])
        have i4 : ((0 : Nat) : Int) < 4 := by omega
        have HPW := Lib.hid hPW
        have HDW := Lib.hid hDW
        have HBX := Lib.hid hbx
        have HRS := Lib.hid hrs
        have H6 := Lib.hid h6
        have HMK := Lib.hid hmk
        have HBW := Lib.hid hBw
        have HL := Lib.hid hL
        have HL2 := Lib.hid hlen2
        have T1 := Lib.hid t1
        have T2 := Lib.hid t2
        have T3 := Lib.hid t3
        have hzw : wr.heap.size + 3 = W.heap.size := by omega
        have HZW := Lib.hid hzw
        have g6W : g6 < W.heap.size := h6.lt
        rw [hzV] at T1 T2 T3 ⊢
        clear hBV hzV hBW hzW hW t1 t2 t3 hwr hB1 hBw hbx hrs h6 hPW hDW hmk hpc hlen1 hlen2 hL HI HB6 pA hzw
        go_upto_region 7 with fail
        go_quiet ((go_at_call 15; exact Calls.quiet_of_same (pL.out _)))
        obtain ⟨V2, hV2⟩ : ∃ V2, V2 = W.drewN nq := ⟨_, rfl⟩
        have hBV : Below W.heap.size W V2 := by rw [hV2]; exact below_drewN (Below.refl _ _) _
        have hzV : V2.heap.size = W.heap.size := by rw [hV2]; rfl
        have hcV : ∀ p, V2.cell? p = W.cell? p := fun p => by rw [hV2]; rfl
        rw [← hV2]
        have c6' : V2.cell? ⟨g6, 0, none⟩ = some (.int .i64 0) := (hcV _).trans c6
        have cb' : V2.cell? ⟨w.heap.size, 0, none⟩ = some (.slice (a 0) L.length (c 0)) := (hcV _).trans cb
        have HZV := Lib.hid hzV
        clear hV2 c6 cb hcV pL hzV
        go_wp2_with fail
        have hzV := HZV.out
        obtain ⟨X, hX⟩ : ∃ X, X = ((V2.alloc (.cells #[.int .i64 0] 3)).alloc (.cells #[.int .i64 (-1)] 3)) := ⟨_, rfl⟩
        have hBX : Below V2.heap.size V2 X := by rw [hX]; exact ((Below.refl _ V2).alloc (Nat.le_refl _) _).alloc (by simp) _
        have hzX : X.heap.size = V2.heap.size + 2 := by rw [hX]; simp
        have y0 : Blk X V2.heap.size 3 #[.int .i64 0] := by rw [hX]; exact (Blk.new V2 _ _).alloc _
        have y1 : Blk X (V2.heap.size + 1) 3 #[.int .i64 (-1)] := by
          have := Blk.new (V2.alloc (.cells #[.int .i64 0] 3)) 3 #[.int .i64 (-1)]
          rw [World.size_alloc] at this; rw [hX]; exact this
        rw [← hX]
        obtain ⟨g10, hg10⟩ : ∃ g, g = V2.heap.size := ⟨_, rfl⟩
        rw [← hg10] at y0 y1 ⊢
        have hBWX : Below W.heap.size W X := hBV.trans (hBX.mono (by omega))
        have hPX := HPW.out.below hBWX
        have hDX := HDW.out.below hBWX
        have hbx := HBX.out.below hBWX HBX.out.lt
        have hrs := HRS.out.below hBWX HRS.out.lt
        have h6 := H6.out.below hBWX H6.out.lt
        have t1 := T1.out.below hBWX T1.out.lt
        have t2 := T2.out.below hBWX T2.out.lt
        have t3 := T3.out.below hBWX T3.out.lt
        have hmk : Marks (w.heap.size + 2) ds X := HMK.out.keep (fun q o hq ho _ => (hBWX.block q (Array.getElem?_eq_some_iff.1 ho).1).trans ho)
        have hBwX : Below w.heap.size w X := HBW.out.trans (hBWX.mono HBW.out.size)
        have hzg : g10 = W.heap.size := by omega
        have hXg : X.heap.size = g10 + 2 := by omega
        have hown : ∀ g, Own s n g → g < g10 := fun g hg => by rw [hzg]; exact HPW.out.own_lt g hg
        have HMK2 := Lib.hid hmk
        have HRSX := Lib.hid hrs
        have H6X := Lib.hid h6
        have HBXX := Lib.hid hbx
        have HDX := Lib.hid hDX
        have HPX := Lib.hid hPX
        have HBWX := Lib.hid hBwX
        have HXG := Lib.hid hXg
        have hzw2 : wr.heap.size + 3 = g10 := by rw [hzg]; exact HZW.out
        have n6 : g6 < g10 := by omega
        have nb : w.heap.size < g10 := by have := HBX.out.lt; omega
        have nr : w.heap.size + 1 < g10 := by have := HRS.out.lt; omega
        have HOWN := Lib.hid hown
        clear hBV hzV hX hBX hzX hBWX hDX hbx hrs h6 hmk hBwX hg10 hzg c6' cb' g6W HPW HDW HBX HRS H6 T1 T2 T3 HMK HBW HZW hown HZV
        have q1 : wr.heap.size < X.heap.size := by omega
        have q2 : wr.heap.size + 1 < X.heap.size := by omega
        have q3 : wr.heap.size + 2 < X.heap.size := by omega
        have q4 : g10 < X.heap.size := by omega
        have q5 : g10 + 1 < X.heap.size := by omega
        have HZW2 := Lib.hid hzw2
        clear hzw2 hXg
        refine (wpIn_wide (n := 9)).1 ?_
        refine' range_mail (d := 0) (b := 0) (by omega) (by omega) hPX HM.out (t1.cell 0) (t2.cell 0) (t3.cell 0) (by omega) (by omega) (by omega) L HL.out rfl rfl _
          (fun j U => Blk U g10 3 #[.int .i64 (j : Int)] ∧ Blk U (g10 + 1) 3 #[.int .i64 (old (L.take j))] ∧ Touch (fun g => g = g10 ∨ g = g10 + 1) X U) (fun _ _ => False)
          (fun j A C h hb => ⟨h.1.below hb (by omega), h.2.1.below hb (by omega), touch_frB h.2.2 hb⟩) (fun _ _ _ h _ => h) ⟨y0, y1, Touch.refl _ _⟩ ?assign0 ?body0 ?done0 ?stop0
        case assign0 =>
          intro lo sa sl2 sc ag U K2 q hq hfin
          have HQ := Lib.hid hq
          clear hq
          dsimp only [encM]
          gi_wp2
          rw [← HQ.out]
          exact hfin
        case stop0 =>
          rintro D j U hD hj hf _
          exact hf.elim
        case body0 =>
          rintro lo j sa sc ⟨bs, ag⟩ bq U ⟨hv, hv2, hT⟩ hy hbz hbx hrow hz2
          have hjl : j < L.length := (List.getElem?_eq_some_iff.1 hy).1
          have h128' := h128
          have hbwU : Below w.heap.size w U := HBWX.out.trans (hT.below HBWX.out.size (fun k hk => by omega))
          have hDU := HD.out.below hbwU
          have hyL : (m.L 0)[j]? = some (bs, ag) := by rw [← HL.out]; exact hy
          obtain ⟨e0, da, dc, he0, ha0, hv0, hrd⟩ := hDU.got (by omega) hyL
          obtain ⟨ga, hga⟩ := hDU.head (by omega) hyL
          have hlst := hDU.lst 0 (by omega)
          unfold Lst at hlst
          obtain ⟨d0, d1, hcap⟩ : U.cell? ⟨ga, j * 2, none⟩ = some (.slice da bs.length dc) ∧ U.cell? ⟨ga, j * 2 + 1, none⟩ = some (.int .i64 ag) ∧ L.length ≤ c 0 := by
            rcases hlst.form with ⟨_, h0, hx0⟩ | ⟨g', cap, hv', hnc, hcm2, _, hg, hc, _⟩
            · have := (List.getElem?_eq_some_iff.1 he0).1; omega
            · obtain ⟨q1, q2, q3⟩ := Value.slice.inj hv'
              rw [hga] at q1
              cases q1
              have f0 := flat_get (cs := ecs) (s := 2) (fun _ => rfl) (es 0) he0 (i := 0) (by omega)
              have f1 := flat_get (cs := ecs) (s := 2) (fun _ => rfl) (es 0) he0 (i := 1) (by omega)
              have e1 := hc (j * 2) _ f0
              have e2 := hc (j * 2 + 1) _ f1
              rw [hv0] at e1
              refine ⟨e1, by have z := ha0; dsimp only at z; rw [← z]; exact e2, ?_⟩
              rw [HL.out, ← hDU.len 0 (by omega), ← hDU.ln 0 (by omega)]
              obtain ⟨a', c', e', h', _⟩ := hlst.slice
              obtain ⟨z1, z2, z3⟩ := Value.slice.inj e'
              omega
          have hbx6 := H6X.out.touch hT (by omega)
          have hbxb := HBXX.out.touch hT (by omega)
          have b6 : U.cell? ⟨g6, 0, none⟩ = some (.int .i64 0) := hbx6.cell 0
          have bb : U.cell? ⟨w.heap.size, 0, none⟩ = some (.slice (some ⟨ga, 0, none⟩) L.length (c 0)) := (hbxb.cell 0).trans (by show some (Value.slice (a 0) (l 0) (c 0)) = _; rw [HL2.out, hga])
          have b10 : U.cell? ⟨g10, 0, none⟩ = some (.int .i64 (j : Int)) := hv.cell 0
          have f10 := hv.frozen 0
          obtain ⟨ov, hov⟩ : ∃ ov, ov = old (L.take j) := ⟨_, rfl⟩
          rw [← hov] at hv2
          have b11 : U.cell? ⟨g10 + 1, 0, none⟩ = some (.int .i64 ov) := hv2.cell 0
          have f11 := hv2.frozen 0
          have e0' : U.cell? ⟨bq, 0, none⟩ = some (.slice sa bs.length sc) := hbx.cell 0
          have e1' : U.cell? ⟨bq, 1, none⟩ = some (.int .i64 ag) := hbx.cell 1
          have hos := old_succ L j hy
          dsimp only at hos
          rw [← hov] at hos
          obtain ⟨bl, hbl⟩ : ∃ bl, bl = bs.length := ⟨_, rfl⟩
          have hsz := HM.out.sz 0 (by omega) (bs, ag) (List.mem_of_getElem? hyL)
          dsimp only at hsz
          have hrd' := hrd.row
          dsimp only at hrd' hrow
          rw [← hbl] at e0' d0 hrow hrd' hsz ⊢
          have pS := Lib.hid (fun i => same_bytesQ (U.drewN i) sa da bl sc dc bs (by exact hrow) (by exact hrd') (by omega))
          have ji0 : (0 : Int) ≤ (j : Int) := by omega
          have ji1 : (j : Int) < (L.length : Int) := by omega
          have ji2 : ¬ (L.length : Int) ≤ (j : Int) := by omega
          have ji3 : ¬ L.length ≤ j := by omega
          have ji4 : (j : Int) < (c 0 : Int) := by omega
          have ji6 : decide (L.length ≤ j) = false := by simpa using ji3
          have ji5 : IntKind.i64.wrap ((j : Int) + 1) = (j : Int) + 1 := IntWalk.i64_in _ (by omega)
          obtain ⟨ag1, ag2⟩ := hsz.2
          have hmax : -9223372036854775808 ≤ ag ∧ ag ≤ 9223372036854775807 := by omega
          have ne10 : ¬ g10 + 1 = g10 := by omega
          have FIN := Lib.hid (fun (q : Nat) (u : Int) (hu : u = max ov ag) => (show KeepsFrom X.heap.size U (((U.drewN q).setCell ⟨g10 + 1, 0, none⟩ (.int .i64 u)).setCell ⟨g10, 0, none⟩ (.int .i64 ((j : Int) + 1))) ∧ KeepZ (Own s n) U (((U.drewN q).setCell ⟨g10 + 1, 0, none⟩ (.int .i64 u)).setCell ⟨g10, 0, none⟩ (.int .i64 ((j : Int) + 1))) ∧
              Blk (((U.drewN q).setCell ⟨g10 + 1, 0, none⟩ (.int .i64 u)).setCell ⟨g10, 0, none⟩ (.int .i64 ((j : Int) + 1))) g10 3 #[.int .i64 ((j + 1 : Nat) : Int)] ∧ Blk (((U.drewN q).setCell ⟨g10 + 1, 0, none⟩ (.int .i64 u)).setCell ⟨g10, 0, none⟩ (.int .i64 ((j : Int) + 1))) (g10 + 1) 3 #[.int .i64 (old (L.take (j + 1)))] ∧
              Touch (fun g => g = g10 ∨ g = g10 + 1) X (((U.drewN q).setCell ⟨g10 + 1, 0, none⟩ (.int .i64 u)).setCell ⟨g10, 0, none⟩ (.int .i64 ((j : Int) + 1))) by
            have hts : Touch (fun g => g = g10 ∨ g = g10 + 1) U (((U.drewN q).setCell ⟨g10 + 1, 0, none⟩ (.int .i64 u)).setCell ⟨g10, 0, none⟩ (.int .i64 ((j : Int) + 1))) := (((Touch.refl (fun g => g = g10 ∨ g = g10 + 1) U).drewN q).setCell (p := ⟨g10 + 1, 0, none⟩) (.inl (.inr rfl)) _).setCell (p := ⟨g10, 0, none⟩) (.inl (.inl rfl)) _
            refine ⟨⟨hts.size, fun k o hk ho _ => (hts.block k (Array.getElem?_eq_some_iff.1 ho).1 (by omega)).trans ho⟩, ⟨fun k hk => hts.block k (by have := HOWN.out k hk; omega) (by have := HOWN.out k hk; omega), hts.size⟩, ?_, ?_, hT.trans hts (fun k hk => .inl hk)⟩
            · have := ((hv.drewN q).far (p := ⟨g10 + 1, 0, none⟩) (by simp) (.int .i64 u)).set_ 0 (.int .i64 ((j : Int) + 1))
              push_cast
              exact this
            · have := ((hv2.drewN q).set_ 0 (.int .i64 u)).far (p := ⟨g10, 0, none⟩) (by simp) (.int .i64 ((j : Int) + 1))
              rw [hos, ← hu]
              exact this))
          clear hv hv2 hT hbx hrow hrd hrd' hbwU hDU hyL he0 ha0 hv0 hga hlst hbx6 hbxb hov hos hsz hy hbl hnf
          by_cases cc : ov < ag
          · have m2 : max ov ag = ag := by omega
            have M2 := Lib.hid m2.symm
            have m1 : (if ov < ag then ag else ov) = ag := if_pos cc
            clear m2
            gi_wp2
            refine wpIn_region_quiet_round lo (by kernel_rfl) (by kernel_rfl) (by kernel_rfl) ?_
            repeat (gi_big_quiet_step (fail))
            refine wpQuietIn_step (by simp [Oper.askedIn, Oper.about, Fence.wide]) (fun K hK => ?_)
            go_simp
            apply Exists.intro
            refine ⟨fun _ => ?_, hK _ ?_⟩
            · gi_at_call 14
              refine CallsIn.quiet_of ((callsIn_wide (n := _)).2 (pS.out _))
            clear hK K
            repeat (gi_big_quiet_step (fail))
            refine wpQuietIn_nil ?_
            intro _ hw'
            obtain ⟨nq, hw''⟩ := hw'
            subst hw''
            gi_wp2
            exact FIN.out _ _ M2.out
          · have m2 : max ov ag = ov := by omega
            have M2 := Lib.hid m2.symm
            clear m2
            gi_wp2
            refine wpIn_region_quiet_round lo (by kernel_rfl) (by kernel_rfl) (by kernel_rfl) ?_
            repeat (gi_big_quiet_step (fail))
            refine wpQuietIn_step (by simp [Oper.askedIn, Oper.about, Fence.wide]) (fun K hK => ?_)
            go_simp
            apply Exists.intro
            refine ⟨fun _ => ?_, hK _ ?_⟩
            · gi_at_call 14
              refine CallsIn.quiet_of ((callsIn_wide (n := _)).2 (pS.out _))
            clear hK K
            repeat (gi_big_quiet_step (fail))
            refine wpQuietIn_nil ?_
            intro _ hw'
            obtain ⟨nq, hw''⟩ := hw'
            subst hw''
            gi_wp2
            exact FIN.out _ _ M2.out
        case done0 =>
          rintro D U hD ⟨hv, hv2, hT⟩ hdf
          rw [List.take_of_length_le (Nat.le_refl _)] at hv2
          have hbwU : Below w.heap.size w U := HBWX.out.trans (hT.below HBWX.out.size (fun k hk => by omega))
          have hzXU := hT.size
          have hmU : Marks (w.heap.size + 2) ds U := HMK2.out.keep (fun q o hq ho hc => (hT.block q (Array.getElem?_eq_some_iff.1 ho).1 (fun e => by
            rcases e with e | e
            · rw [e, y0] at ho; cases ho; cases hc
            · rw [e, y1] at ho; cases ho; cases hc)).trans ho)
          have hbx6 := H6X.out.touch hT (by omega)
          have hbxb := HBXX.out.touch hT (by omega)
          have hbxr := HRSX.out.touch hT (by omega)
          have hPU := HP.out.below hbwU
          have cO := regrown U (v := .int .i64 (old L)) (fun W hb => by
            have := oldest_in W n 0 0 B cm s m (by omega) (by omega) (hPU.below hb) HM.out hcm
            rw [HL.out]
            exact this)
          have q10 : ∀ d os, (grow (redrawn U d) os).cell? ⟨g10, 0, none⟩ = some (.int .i64 (L.length : Int)) := cell_regrown (hv.cell 0)
          have q11 : ∀ d os, (grow (redrawn U d) os).cell? ⟨g10 + 1, 0, none⟩ = some (.int .i64 (old L)) := cell_regrown (hv2.cell 0)
          have q6 : ∀ d os, (grow (redrawn U d) os).cell? ⟨g6, 0, none⟩ = some (.int .i64 0) := cell_regrown (hbx6.cell 0)
          have qb : ∀ d os, (grow (redrawn U d) os).cell? ⟨w.heap.size, 0, none⟩ = some (.slice (a 0) L.length (c 0)) := cell_regrown ((hbxb.cell 0).trans (by show some (Value.slice (a 0) (l 0) (c 0)) = _; rw [HL2.out]))
          obtain ⟨ol, hol⟩ : ∃ ol, ol = old L := ⟨_, rfl⟩
          rw [← hol] at cO q11
          have HU6 := Lib.hid hbx6
          have HUB := Lib.hid hbxb
          have HUR := Lib.hid hbxr
          have HBWU := Lib.hid hbwU
          have HMU := Lib.hid hmU
          have HDF := Lib.hid hdf
          have HDX2 := Lib.hid hD
          have HZXU := Lib.hid hzXU
          clear hv hv2 hT hbx6 hbxb hbxr hbwU hPU hol hmU hdf hD hzXU
          go_upto_region 17 with fail
          refine wp_region_quiet_below (by kernel_rfl) (by kernel_rfl) ?_
          repeat (quiet_step (exact cO _ _))
          refine wpQuiet_nil ?_
          intro U2 hw'
          obtain ⟨⟨dq, osq⟩, hw''⟩ := hw'
          have hb2 : Below U.heap.size U U2 := by rw [hw'']; exact below_regrown _ _ _
          clear hw'' cO q10 q11 q6 qb
          have u6 := HU6.out.below hb2 HU6.out.lt
          have ub := HUB.out.below hb2 HUB.out.lt
          have ur := HUR.out.below hb2 HUR.out.lt
          have b6 : U2.cell? ⟨g6, 0, none⟩ = some (.int .i64 0) := u6.cell 0
          obtain ⟨g7, hg7⟩ : ∃ g, g = U2.heap.size := ⟨_, rfl⟩
          have hz2 := hb2.size
          have hX1 := HZXU.out
          have FIN := Lib.hid (show SI w m a l c (0 + 1) (.int .i64 (sl + (L.length : Int))) (.pointer (some ⟨g7, 0, none⟩)) ({ target := .collected D, args := #[] } :: ds) (U2.alloc (.cells #[.int .i64 ((0 + 1 : Nat) : Int)] 3)) by
            have hba : Below U2.heap.size U2 (U2.alloc (.cells #[.int .i64 ((0 + 1 : Nat) : Int)] 3)) := (Below.refl _ _).alloc (Nat.le_refl _) _
            refine ⟨by omega, by rw [HSE.out, HL.out]; rfl, ⟨g7, rfl, by omega, by rw [hg7]; exact Blk.new _ _ _⟩, ub.alloc _, ur.alloc _, (HBWU.out.trans (hb2.mono HBWU.out.size)).trans (hba.mono (by have := HBWU.out.size; omega)), ?_⟩
            have hds : U.heap[D]? = some (.deferred (some [])) := HDF.out
            have hD2 : (U2.alloc (.cells #[.int .i64 ((0 + 1 : Nat) : Int)] 3)).heap[D]? = some (.deferred (some [])) := (heap_old U2 _ (Nat.lt_of_lt_of_le (Array.getElem?_eq_some_iff.1 hds).1 hz2)).trans ((hb2.block D (Array.getElem?_eq_some_iff.1 hds).1).trans hds)
            refine Marks.cons ?_ HMK2.out HDX2.out (by have := HDX2.out; omega) hD2
            exact HMU.out.keep (fun q o hq ho _ => (heap_old U2 _ (Nat.lt_of_lt_of_le (Array.getElem?_eq_some_iff.1 ho).1 hz2)).trans ((hb2.block q (Array.getElem?_eq_some_iff.1 ho).1).trans ho)))
          have HG7 := Lib.hid hg7
          clear u6 ub ur hb2 hz2 hX1 hg7 nb nr n6 q1 q2 q3 q4 q5 y0 y1 t1 t2 t3 hPX
          go_wp2_with fail
          go_roundg (4 - (0 + 1))
          case measure => omega
          case rel =>
            refine ⟨0 + 1, rfl, ?_⟩
            rw [← HG7.out]
            exact FIN.out
      · have c6 : wr.cell? ⟨g6, 0, none⟩ = some (.int .i64 1) := hb6.cell 0
        obtain ⟨sl, hsle⟩ : ∃ sl, sl = sumLen m 1 := ⟨_, rfl⟩
        have hs1 := hsl.1
        have hs2 := hsl.2
        rw [← hsle] at hs1 hs2 ⊢
        have HSE := Lib.hid hsle
        have HI := Lib.hid hI
        have HB6 := Lib.hid hb6
        have pA := Lib.hid (fun W => all_any W n 0 1)
        clear hsl hsle hI hb6 hlt hk4
        go_wp2_with fail
        go_quiet (fail)
        obtain ⟨V, hV⟩ : ∃ V, V = wr.drewN nq := ⟨_, rfl⟩
        have hBV : Below wr.heap.size wr V := by rw [hV]; exact below_drewN (Below.refl _ _) _
        have hzV : V.heap.size = wr.heap.size := by rw [hV]; rfl
        rw [← hV]
        clear hV
        go_wp2_with fail
        refine (pA.out _).mono ?_
        rintro e w' ⟨rfl, rfl⟩
        obtain ⟨W, hW⟩ : ∃ W, W = (((V.alloc (.cells #[.pointer (some ⟨n, 0, none⟩)] 25)).alloc (.cells #[.int .i64 0] 3)).alloc (.cells #[.int .i64 1] 3)) := ⟨_, rfl⟩
        have hBW : Below V.heap.size V W := by rw [hW]; exact (((Below.refl _ V).alloc (Nat.le_refl _) _).alloc (by simp) _).alloc (by simp; omega) _
        have hzW : W.heap.size = V.heap.size + 3 := by rw [hW]; simp
        have t1 : Blk W V.heap.size 25 #[.pointer (some ⟨n, 0, none⟩)] := by rw [hW]; exact ((Blk.new V _ _).alloc _).alloc _
        have t2 : Blk W (V.heap.size + 1) 3 #[.int .i64 0] := by
          have := (Blk.new (V.alloc (.cells #[.pointer (some ⟨n, 0, none⟩)] 25)) 3 #[.int .i64 0]).alloc (.cells #[.int .i64 1] 3)
          rw [World.size_alloc] at this; rw [hW]; exact this
        have t3 : Blk W (V.heap.size + 2) 3 #[.int .i64 1] := by
          have := Blk.new ((V.alloc (.cells #[.pointer (some ⟨n, 0, none⟩)] 25)).alloc (.cells #[.int .i64 0] 3)) 3 #[.int .i64 1]
          rw [World.size_alloc, World.size_alloc] at this; rw [hW]; exact this
        rw [← hW]
        have hwr : Below w.heap.size w wr := HI.out.below
        have hzr : w.heap.size ≤ wr.heap.size := hwr.size
        have hB1 : Below wr.heap.size wr W := hBV.trans (hBW.mono (by omega))
        have hBw : Below w.heap.size w W := hwr.trans (hB1.mono hzr)
        have hbx := HI.out.box.below hB1 HI.out.box.lt
        have hrs := HI.out.res.below hB1 HI.out.res.lt
        have h6 := HB6.out.below hB1 HB6.out.lt
        have hPW := HP.out.below hBw
        have hDW := HD.out.below hBw
        have hmk : Marks (w.heap.size + 2) ds W := HI.out.marks.keep (fun q o hq ho _ => (hB1.block q (Array.getElem?_eq_some_iff.1 ho).1).trans ho)
        obtain ⟨pa, pcp, _, hpc⟩ := hPW.net.slice (k := 1) (by omega)
        have hlen1 := hPW.len 1 (by omega)
        have hlen2 := (hDW.ln 1 (by omega)).trans (hDW.len 1 (by omega))
        have h128 := HM.out.len 1 (by omega)
        obtain ⟨L, hL⟩ : ∃ L, L = m.L 1 := ⟨_, rfl⟩
        rw [← hL] at hlen1 hlen2 h128
        rw [hlen1] at hpc
        have pL := Lib.hid (fun j => len_in' (W.drewN j) n 0 1 L.length pcp pa (by omega) (by omega) (by exact hpc))
        have c6 : W.cell? ⟨g6, 0, none⟩ = some (.int .i64 1) := h6.cell 0
        have cb : W.cell? ⟨w.heap.size, 1, none⟩ = some (.slice (a 1) L.length (c 1)) := (hbx.cell 1).trans (by show some (Value.slice (a 1) (l 1) (c 1)) = _; rw [hlen2])
        have i4 : ((1 : Nat) : Int) < 4 := by omega
        have HPW := Lib.hid hPW
        have HDW := Lib.hid hDW
        have HBX := Lib.hid hbx
        have HRS := Lib.hid hrs
        have H6 := Lib.hid h6
        have HMK := Lib.hid hmk
        have HBW := Lib.hid hBw
        have HL := Lib.hid hL
        have HL2 := Lib.hid hlen2
        have T1 := Lib.hid t1
        have T2 := Lib.hid t2
        have T3 := Lib.hid t3
        have hzw : wr.heap.size + 3 = W.heap.size := by omega
        have HZW := Lib.hid hzw
        have g6W : g6 < W.heap.size := h6.lt
        rw [hzV] at T1 T2 T3 ⊢
        clear hBV hzV hBW hzW hW t1 t2 t3 hwr hB1 hBw hbx hrs h6 hPW hDW hmk hpc hlen1 hlen2 hL HI HB6 pA hzw
        go_upto_region 7 with fail
        go_quiet ((go_at_call 15; exact Calls.quiet_of_same (pL.out _)))
        obtain ⟨V2, hV2⟩ : ∃ V2, V2 = W.drewN nq := ⟨_, rfl⟩
        have hBV : Below W.heap.size W V2 := by rw [hV2]; exact below_drewN (Below.refl _ _) _
        have hzV : V2.heap.size = W.heap.size := by rw [hV2]; rfl
        have hcV : ∀ p, V2.cell? p = W.cell? p := fun p => by rw [hV2]; rfl
        rw [← hV2]
        have c6' : V2.cell? ⟨g6, 0, none⟩ = some (.int .i64 1) := (hcV _).trans c6
        have cb' : V2.cell? ⟨w.heap.size, 1, none⟩ = some (.slice (a 1) L.length (c 1)) := (hcV _).trans cb
        have HZV := Lib.hid hzV
        clear hV2 c6 cb hcV pL hzV
        go_wp2_with fail
        have hzV := HZV.out
        obtain ⟨X, hX⟩ : ∃ X, X = ((V2.alloc (.cells #[.int .i64 0] 3)).alloc (.cells #[.int .i64 (-1)] 3)) := ⟨_, rfl⟩
        have hBX : Below V2.heap.size V2 X := by rw [hX]; exact ((Below.refl _ V2).alloc (Nat.le_refl _) _).alloc (by simp) _
        have hzX : X.heap.size = V2.heap.size + 2 := by rw [hX]; simp
        have y0 : Blk X V2.heap.size 3 #[.int .i64 0] := by rw [hX]; exact (Blk.new V2 _ _).alloc _
        have y1 : Blk X (V2.heap.size + 1) 3 #[.int .i64 (-1)] := by
          have := Blk.new (V2.alloc (.cells #[.int .i64 0] 3)) 3 #[.int .i64 (-1)]
          rw [World.size_alloc] at this; rw [hX]; exact this
        rw [← hX]
        obtain ⟨g10, hg10⟩ : ∃ g, g = V2.heap.size := ⟨_, rfl⟩
        rw [← hg10] at y0 y1 ⊢
        have hBWX : Below W.heap.size W X := hBV.trans (hBX.mono (by omega))
        have hPX := HPW.out.below hBWX
        have hDX := HDW.out.below hBWX
        have hbx := HBX.out.below hBWX HBX.out.lt
        have hrs := HRS.out.below hBWX HRS.out.lt
        have h6 := H6.out.below hBWX H6.out.lt
        have t1 := T1.out.below hBWX T1.out.lt
        have t2 := T2.out.below hBWX T2.out.lt
        have t3 := T3.out.below hBWX T3.out.lt
        have hmk : Marks (w.heap.size + 2) ds X := HMK.out.keep (fun q o hq ho _ => (hBWX.block q (Array.getElem?_eq_some_iff.1 ho).1).trans ho)
        have hBwX : Below w.heap.size w X := HBW.out.trans (hBWX.mono HBW.out.size)
        have hzg : g10 = W.heap.size := by omega
        have hXg : X.heap.size = g10 + 2 := by omega
        have hown : ∀ g, Own s n g → g < g10 := fun g hg => by rw [hzg]; exact HPW.out.own_lt g hg
        have HMK2 := Lib.hid hmk
        have HRSX := Lib.hid hrs
        have H6X := Lib.hid h6
        have HBXX := Lib.hid hbx
        have HDX := Lib.hid hDX
        have HPX := Lib.hid hPX
        have HBWX := Lib.hid hBwX
        have HXG := Lib.hid hXg
        have hzw2 : wr.heap.size + 3 = g10 := by rw [hzg]; exact HZW.out
        have n6 : g6 < g10 := by omega
        have nb : w.heap.size < g10 := by have := HBX.out.lt; omega
        have nr : w.heap.size + 1 < g10 := by have := HRS.out.lt; omega
        have HOWN := Lib.hid hown
        clear hBV hzV hX hBX hzX hBWX hDX hbx hrs h6 hmk hBwX hg10 hzg c6' cb' g6W HPW HDW HBX HRS H6 T1 T2 T3 HMK HBW HZW hown HZV
        have q1 : wr.heap.size < X.heap.size := by omega
        have q2 : wr.heap.size + 1 < X.heap.size := by omega
        have q3 : wr.heap.size + 2 < X.heap.size := by omega
        have q4 : g10 < X.heap.size := by omega
        have q5 : g10 + 1 < X.heap.size := by omega
        have HZW2 := Lib.hid hzw2
        clear hzw2 hXg
        refine (wpIn_wide (n := 9)).1 ?_
        refine' range_mail (d := 0) (b := 1) (by omega) (by omega) hPX HM.out (t1.cell 0) (t2.cell 0) (t3.cell 0) (by omega) (by omega) (by omega) L HL.out rfl rfl _
          (fun j U => Blk U g10 3 #[.int .i64 (j : Int)] ∧ Blk U (g10 + 1) 3 #[.int .i64 (old (L.take j))] ∧ Touch (fun g => g = g10 ∨ g = g10 + 1) X U) (fun _ _ => False)
          (fun j A C h hb => ⟨h.1.below hb (by omega), h.2.1.below hb (by omega), touch_frB h.2.2 hb⟩) (fun _ _ _ h _ => h) ⟨y0, y1, Touch.refl _ _⟩ ?assign1 ?body1 ?done1 ?stop1
        case assign1 =>
          intro lo sa sl2 sc ag U K2 q hq hfin
          have HQ := Lib.hid hq
          clear hq
          dsimp only [encM]
          gi_wp2
          rw [← HQ.out]
          exact hfin
        case stop1 =>
          rintro D j U hD hj hf _
          exact hf.elim
        case body1 =>
          rintro lo j sa sc ⟨bs, ag⟩ bq U ⟨hv, hv2, hT⟩ hy hbz hbx hrow hz2
          have hjl : j < L.length := (List.getElem?_eq_some_iff.1 hy).1
          have h128' := h128
          have hbwU : Below w.heap.size w U := HBWX.out.trans (hT.below HBWX.out.size (fun k hk => by omega))
          have hDU := HD.out.below hbwU
          have hyL : (m.L 1)[j]? = some (bs, ag) := by rw [← HL.out]; exact hy
          obtain ⟨e0, da, dc, he0, ha0, hv0, hrd⟩ := hDU.got (by omega) hyL
          obtain ⟨ga, hga⟩ := hDU.head (by omega) hyL
          have hlst := hDU.lst 1 (by omega)
          unfold Lst at hlst
          obtain ⟨d0, d1, hcap⟩ : U.cell? ⟨ga, j * 2, none⟩ = some (.slice da bs.length dc) ∧ U.cell? ⟨ga, j * 2 + 1, none⟩ = some (.int .i64 ag) ∧ L.length ≤ c 1 := by
            rcases hlst.form with ⟨_, h0, hx0⟩ | ⟨g', cap, hv', hnc, hcm2, _, hg, hc, _⟩
            · have := (List.getElem?_eq_some_iff.1 he0).1; omega
            · obtain ⟨q1, q2, q3⟩ := Value.slice.inj hv'
              rw [hga] at q1
              cases q1
              have f0 := flat_get (cs := ecs) (s := 2) (fun _ => rfl) (es 1) he0 (i := 0) (by omega)
              have f1 := flat_get (cs := ecs) (s := 2) (fun _ => rfl) (es 1) he0 (i := 1) (by omega)
              have e1 := hc (j * 2) _ f0
              have e2 := hc (j * 2 + 1) _ f1
              rw [hv0] at e1
              refine ⟨e1, by have z := ha0; dsimp only at z; rw [← z]; exact e2, ?_⟩
              rw [HL.out, ← hDU.len 1 (by omega), ← hDU.ln 1 (by omega)]
              obtain ⟨a', c', e', h', _⟩ := hlst.slice
              obtain ⟨z1, z2, z3⟩ := Value.slice.inj e'
              omega
          have hbx6 := H6X.out.touch hT (by omega)
          have hbxb := HBXX.out.touch hT (by omega)
          have b6 : U.cell? ⟨g6, 0, none⟩ = some (.int .i64 1) := hbx6.cell 0
          have bb : U.cell? ⟨w.heap.size, 1, none⟩ = some (.slice (some ⟨ga, 0, none⟩) L.length (c 1)) := (hbxb.cell 1).trans (by show some (Value.slice (a 1) (l 1) (c 1)) = _; rw [HL2.out, hga])
          have b10 : U.cell? ⟨g10, 0, none⟩ = some (.int .i64 (j : Int)) := hv.cell 0
          have f10 := hv.frozen 0
          obtain ⟨ov, hov⟩ : ∃ ov, ov = old (L.take j) := ⟨_, rfl⟩
          rw [← hov] at hv2
          have b11 : U.cell? ⟨g10 + 1, 0, none⟩ = some (.int .i64 ov) := hv2.cell 0
          have f11 := hv2.frozen 0
          have e0' : U.cell? ⟨bq, 0, none⟩ = some (.slice sa bs.length sc) := hbx.cell 0
          have e1' : U.cell? ⟨bq, 1, none⟩ = some (.int .i64 ag) := hbx.cell 1
          have hos := old_succ L j hy
          dsimp only at hos
          rw [← hov] at hos
          obtain ⟨bl, hbl⟩ : ∃ bl, bl = bs.length := ⟨_, rfl⟩
          have hsz := HM.out.sz 1 (by omega) (bs, ag) (List.mem_of_getElem? hyL)
          dsimp only at hsz
          have hrd' := hrd.row
          dsimp only at hrd' hrow
          rw [← hbl] at e0' d0 hrow hrd' hsz ⊢
          have pS := Lib.hid (fun i => same_bytesQ (U.drewN i) sa da bl sc dc bs (by exact hrow) (by exact hrd') (by omega))
          have ji0 : (0 : Int) ≤ (j : Int) := by omega
          have ji1 : (j : Int) < (L.length : Int) := by omega
          have ji2 : ¬ (L.length : Int) ≤ (j : Int) := by omega
          have ji3 : ¬ L.length ≤ j := by omega
          have ji4 : (j : Int) < (c 1 : Int) := by omega
          have ji6 : decide (L.length ≤ j) = false := by simpa using ji3
          have ji5 : IntKind.i64.wrap ((j : Int) + 1) = (j : Int) + 1 := IntWalk.i64_in _ (by omega)
          obtain ⟨ag1, ag2⟩ := hsz.2
          have hmax : -9223372036854775808 ≤ ag ∧ ag ≤ 9223372036854775807 := by omega
          have ne10 : ¬ g10 + 1 = g10 := by omega
          have FIN := Lib.hid (fun (q : Nat) (u : Int) (hu : u = max ov ag) => (show KeepsFrom X.heap.size U (((U.drewN q).setCell ⟨g10 + 1, 0, none⟩ (.int .i64 u)).setCell ⟨g10, 0, none⟩ (.int .i64 ((j : Int) + 1))) ∧ KeepZ (Own s n) U (((U.drewN q).setCell ⟨g10 + 1, 0, none⟩ (.int .i64 u)).setCell ⟨g10, 0, none⟩ (.int .i64 ((j : Int) + 1))) ∧
              Blk (((U.drewN q).setCell ⟨g10 + 1, 0, none⟩ (.int .i64 u)).setCell ⟨g10, 0, none⟩ (.int .i64 ((j : Int) + 1))) g10 3 #[.int .i64 ((j + 1 : Nat) : Int)] ∧ Blk (((U.drewN q).setCell ⟨g10 + 1, 0, none⟩ (.int .i64 u)).setCell ⟨g10, 0, none⟩ (.int .i64 ((j : Int) + 1))) (g10 + 1) 3 #[.int .i64 (old (L.take (j + 1)))] ∧
              Touch (fun g => g = g10 ∨ g = g10 + 1) X (((U.drewN q).setCell ⟨g10 + 1, 0, none⟩ (.int .i64 u)).setCell ⟨g10, 0, none⟩ (.int .i64 ((j : Int) + 1))) by
            have hts : Touch (fun g => g = g10 ∨ g = g10 + 1) U (((U.drewN q).setCell ⟨g10 + 1, 0, none⟩ (.int .i64 u)).setCell ⟨g10, 0, none⟩ (.int .i64 ((j : Int) + 1))) := (((Touch.refl (fun g => g = g10 ∨ g = g10 + 1) U).drewN q).setCell (p := ⟨g10 + 1, 0, none⟩) (.inl (.inr rfl)) _).setCell (p := ⟨g10, 0, none⟩) (.inl (.inl rfl)) _
            refine ⟨⟨hts.size, fun k o hk ho _ => (hts.block k (Array.getElem?_eq_some_iff.1 ho).1 (by omega)).trans ho⟩, ⟨fun k hk => hts.block k (by have := HOWN.out k hk; omega) (by have := HOWN.out k hk; omega), hts.size⟩, ?_, ?_, hT.trans hts (fun k hk => .inl hk)⟩
            · have := ((hv.drewN q).far (p := ⟨g10 + 1, 0, none⟩) (by simp) (.int .i64 u)).set_ 0 (.int .i64 ((j : Int) + 1))
              push_cast
              exact this
            · have := ((hv2.drewN q).set_ 0 (.int .i64 u)).far (p := ⟨g10, 0, none⟩) (by simp) (.int .i64 ((j : Int) + 1))
              rw [hos, ← hu]
              exact this))
          clear hv hv2 hT hbx hrow hrd hrd' hbwU hDU hyL he0 ha0 hv0 hga hlst hbx6 hbxb hov hos hsz hy hbl hnf
          by_cases cc : ov < ag
          · have m2 : max ov ag = ag := by omega
            have M2 := Lib.hid m2.symm
            have m1 : (if ov < ag then ag else ov) = ag := if_pos cc
            clear m2
            gi_wp2
            refine wpIn_region_quiet_round lo (by kernel_rfl) (by kernel_rfl) (by kernel_rfl) ?_
            repeat (gi_big_quiet_step (fail))
            refine wpQuietIn_step (by simp [Oper.askedIn, Oper.about, Fence.wide]) (fun K hK => ?_)
            go_simp
            apply Exists.intro
            refine ⟨fun _ => ?_, hK _ ?_⟩
            · gi_at_call 14
              refine CallsIn.quiet_of ((callsIn_wide (n := _)).2 (pS.out _))
            clear hK K
            repeat (gi_big_quiet_step (fail))
            refine wpQuietIn_nil ?_
            intro _ hw'
            obtain ⟨nq, hw''⟩ := hw'
            subst hw''
            gi_wp2
            exact FIN.out _ _ M2.out
          · have m2 : max ov ag = ov := by omega
            have M2 := Lib.hid m2.symm
            clear m2
            gi_wp2
            refine wpIn_region_quiet_round lo (by kernel_rfl) (by kernel_rfl) (by kernel_rfl) ?_
            repeat (gi_big_quiet_step (fail))
            refine wpQuietIn_step (by simp [Oper.askedIn, Oper.about, Fence.wide]) (fun K hK => ?_)
            go_simp
            apply Exists.intro
            refine ⟨fun _ => ?_, hK _ ?_⟩
            · gi_at_call 14
              refine CallsIn.quiet_of ((callsIn_wide (n := _)).2 (pS.out _))
            clear hK K
            repeat (gi_big_quiet_step (fail))
            refine wpQuietIn_nil ?_
            intro _ hw'
            obtain ⟨nq, hw''⟩ := hw'
            subst hw''
            gi_wp2
            exact FIN.out _ _ M2.out
        case done1 =>
          rintro D U hD ⟨hv, hv2, hT⟩ hdf
          rw [List.take_of_length_le (Nat.le_refl _)] at hv2
          have hbwU : Below w.heap.size w U := HBWX.out.trans (hT.below HBWX.out.size (fun k hk => by omega))
          have hzXU := hT.size
          have hmU : Marks (w.heap.size + 2) ds U := HMK2.out.keep (fun q o hq ho hc => (hT.block q (Array.getElem?_eq_some_iff.1 ho).1 (fun e => by
            rcases e with e | e
            · rw [e, y0] at ho; cases ho; cases hc
            · rw [e, y1] at ho; cases ho; cases hc)).trans ho)
          have hbx6 := H6X.out.touch hT (by omega)
          have hbxb := HBXX.out.touch hT (by omega)
          have hbxr := HRSX.out.touch hT (by omega)
          have hPU := HP.out.below hbwU
          have cO := regrown U (v := .int .i64 (old L)) (fun W hb => by
            have := oldest_in W n 0 1 B cm s m (by omega) (by omega) (hPU.below hb) HM.out hcm
            rw [HL.out]
            exact this)
          have q10 : ∀ d os, (grow (redrawn U d) os).cell? ⟨g10, 0, none⟩ = some (.int .i64 (L.length : Int)) := cell_regrown (hv.cell 0)
          have q11 : ∀ d os, (grow (redrawn U d) os).cell? ⟨g10 + 1, 0, none⟩ = some (.int .i64 (old L)) := cell_regrown (hv2.cell 0)
          have q6 : ∀ d os, (grow (redrawn U d) os).cell? ⟨g6, 0, none⟩ = some (.int .i64 1) := cell_regrown (hbx6.cell 0)
          have qb : ∀ d os, (grow (redrawn U d) os).cell? ⟨w.heap.size, 1, none⟩ = some (.slice (a 1) L.length (c 1)) := cell_regrown ((hbxb.cell 1).trans (by show some (Value.slice (a 1) (l 1) (c 1)) = _; rw [HL2.out]))
          obtain ⟨ol, hol⟩ : ∃ ol, ol = old L := ⟨_, rfl⟩
          rw [← hol] at cO q11
          have HU6 := Lib.hid hbx6
          have HUB := Lib.hid hbxb
          have HUR := Lib.hid hbxr
          have HBWU := Lib.hid hbwU
          have HMU := Lib.hid hmU
          have HDF := Lib.hid hdf
          have HDX2 := Lib.hid hD
          have HZXU := Lib.hid hzXU
          clear hv hv2 hT hbx6 hbxb hbxr hbwU hPU hol hmU hdf hD hzXU
          go_upto_region 17 with fail
          refine wp_region_quiet_below (by kernel_rfl) (by kernel_rfl) ?_
          repeat (quiet_step (exact cO _ _))
          refine wpQuiet_nil ?_
          intro U2 hw'
          obtain ⟨⟨dq, osq⟩, hw''⟩ := hw'
          have hb2 : Below U.heap.size U U2 := by rw [hw'']; exact below_regrown _ _ _
          clear hw'' cO q10 q11 q6 qb
          have u6 := HU6.out.below hb2 HU6.out.lt
          have ub := HUB.out.below hb2 HUB.out.lt
          have ur := HUR.out.below hb2 HUR.out.lt
          have b6 : U2.cell? ⟨g6, 0, none⟩ = some (.int .i64 1) := u6.cell 0
          obtain ⟨g7, hg7⟩ : ∃ g, g = U2.heap.size := ⟨_, rfl⟩
          have hz2 := hb2.size
          have hX1 := HZXU.out
          have FIN := Lib.hid (show SI w m a l c (1 + 1) (.int .i64 (sl + (L.length : Int))) (.pointer (some ⟨g7, 0, none⟩)) ({ target := .collected D, args := #[] } :: ds) (U2.alloc (.cells #[.int .i64 ((1 + 1 : Nat) : Int)] 3)) by
            have hba : Below U2.heap.size U2 (U2.alloc (.cells #[.int .i64 ((1 + 1 : Nat) : Int)] 3)) := (Below.refl _ _).alloc (Nat.le_refl _) _
            refine ⟨by omega, by rw [HSE.out, HL.out]; rfl, ⟨g7, rfl, by omega, by rw [hg7]; exact Blk.new _ _ _⟩, ub.alloc _, ur.alloc _, (HBWU.out.trans (hb2.mono HBWU.out.size)).trans (hba.mono (by have := HBWU.out.size; omega)), ?_⟩
            have hds : U.heap[D]? = some (.deferred (some [])) := HDF.out
            have hD2 : (U2.alloc (.cells #[.int .i64 ((1 + 1 : Nat) : Int)] 3)).heap[D]? = some (.deferred (some [])) := (heap_old U2 _ (Nat.lt_of_lt_of_le (Array.getElem?_eq_some_iff.1 hds).1 hz2)).trans ((hb2.block D (Array.getElem?_eq_some_iff.1 hds).1).trans hds)
            refine Marks.cons ?_ HMK2.out HDX2.out (by have := HDX2.out; omega) hD2
            exact HMU.out.keep (fun q o hq ho _ => (heap_old U2 _ (Nat.lt_of_lt_of_le (Array.getElem?_eq_some_iff.1 ho).1 hz2)).trans ((hb2.block q (Array.getElem?_eq_some_iff.1 ho).1).trans ho)))
          have HG7 := Lib.hid hg7
          clear u6 ub ur hb2 hz2 hX1 hg7 nb nr n6 q1 q2 q3 q4 q5 y0 y1 t1 t2 t3 hPX
          go_wp2_with fail
          go_roundg (4 - (1 + 1))
          case measure => omega
          case rel =>
            refine ⟨1 + 1, rfl, ?_⟩
            rw [← HG7.out]
            exact FIN.out
      · have c6 : wr.cell? ⟨g6, 0, none⟩ = some (.int .i64 2) := hb6.cell 0
        obtain ⟨sl, hsle⟩ : ∃ sl, sl = sumLen m 2 := ⟨_, rfl⟩
        have hs1 := hsl.1
        have hs2 := hsl.2
        rw [← hsle] at hs1 hs2 ⊢
        have HSE := Lib.hid hsle
        have HI := Lib.hid hI
        have HB6 := Lib.hid hb6
        have pA := Lib.hid (fun W => all_any W n 1 0)
        clear hsl hsle hI hb6 hlt hk4
        go_wp2_with fail
        go_quiet (fail)
        obtain ⟨V, hV⟩ : ∃ V, V = wr.drewN nq := ⟨_, rfl⟩
        have hBV : Below wr.heap.size wr V := by rw [hV]; exact below_drewN (Below.refl _ _) _
        have hzV : V.heap.size = wr.heap.size := by rw [hV]; rfl
        rw [← hV]
        clear hV
        go_wp2_with fail
        refine (pA.out _).mono ?_
        rintro e w' ⟨rfl, rfl⟩
        obtain ⟨W, hW⟩ : ∃ W, W = (((V.alloc (.cells #[.pointer (some ⟨n, 0, none⟩)] 25)).alloc (.cells #[.int .i64 1] 3)).alloc (.cells #[.int .i64 0] 3)) := ⟨_, rfl⟩
        have hBW : Below V.heap.size V W := by rw [hW]; exact (((Below.refl _ V).alloc (Nat.le_refl _) _).alloc (by simp) _).alloc (by simp; omega) _
        have hzW : W.heap.size = V.heap.size + 3 := by rw [hW]; simp
        have t1 : Blk W V.heap.size 25 #[.pointer (some ⟨n, 0, none⟩)] := by rw [hW]; exact ((Blk.new V _ _).alloc _).alloc _
        have t2 : Blk W (V.heap.size + 1) 3 #[.int .i64 1] := by
          have := (Blk.new (V.alloc (.cells #[.pointer (some ⟨n, 0, none⟩)] 25)) 3 #[.int .i64 1]).alloc (.cells #[.int .i64 0] 3)
          rw [World.size_alloc] at this; rw [hW]; exact this
        have t3 : Blk W (V.heap.size + 2) 3 #[.int .i64 0] := by
          have := Blk.new ((V.alloc (.cells #[.pointer (some ⟨n, 0, none⟩)] 25)).alloc (.cells #[.int .i64 1] 3)) 3 #[.int .i64 0]
          rw [World.size_alloc, World.size_alloc] at this; rw [hW]; exact this
        rw [← hW]
        have hwr : Below w.heap.size w wr := HI.out.below
        have hzr : w.heap.size ≤ wr.heap.size := hwr.size
        have hB1 : Below wr.heap.size wr W := hBV.trans (hBW.mono (by omega))
        have hBw : Below w.heap.size w W := hwr.trans (hB1.mono hzr)
        have hbx := HI.out.box.below hB1 HI.out.box.lt
        have hrs := HI.out.res.below hB1 HI.out.res.lt
        have h6 := HB6.out.below hB1 HB6.out.lt
        have hPW := HP.out.below hBw
        have hDW := HD.out.below hBw
        have hmk : Marks (w.heap.size + 2) ds W := HI.out.marks.keep (fun q o hq ho _ => (hB1.block q (Array.getElem?_eq_some_iff.1 ho).1).trans ho)
        obtain ⟨pa, pcp, _, hpc⟩ := hPW.net.slice (k := 2) (by omega)
        have hlen1 := hPW.len 2 (by omega)
        have hlen2 := (hDW.ln 2 (by omega)).trans (hDW.len 2 (by omega))
        have h128 := HM.out.len 2 (by omega)
        obtain ⟨L, hL⟩ : ∃ L, L = m.L 2 := ⟨_, rfl⟩
        rw [← hL] at hlen1 hlen2 h128
        rw [hlen1] at hpc
        have pL := Lib.hid (fun j => len_in' (W.drewN j) n 1 0 L.length pcp pa (by omega) (by omega) (by exact hpc))
        have c6 : W.cell? ⟨g6, 0, none⟩ = some (.int .i64 2) := h6.cell 0
        have cb : W.cell? ⟨w.heap.size, 2, none⟩ = some (.slice (a 2) L.length (c 2)) := (hbx.cell 2).trans (by show some (Value.slice (a 2) (l 2) (c 2)) = _; rw [hlen2])
        have i4 : ((2 : Nat) : Int) < 4 := by omega
        have HPW := Lib.hid hPW
        have HDW := Lib.hid hDW
        have HBX := Lib.hid hbx
        have HRS := Lib.hid hrs
        have H6 := Lib.hid h6
        have HMK := Lib.hid hmk
        have HBW := Lib.hid hBw
        have HL := Lib.hid hL
        have HL2 := Lib.hid hlen2
        have T1 := Lib.hid t1
        have T2 := Lib.hid t2
        have T3 := Lib.hid t3
        have hzw : wr.heap.size + 3 = W.heap.size := by omega
        have HZW := Lib.hid hzw
        have g6W : g6 < W.heap.size := h6.lt
        rw [hzV] at T1 T2 T3 ⊢
        clear hBV hzV hBW hzW hW t1 t2 t3 hwr hB1 hBw hbx hrs h6 hPW hDW hmk hpc hlen1 hlen2 hL HI HB6 pA hzw
        go_upto_region 7 with fail
        go_quiet ((go_at_call 15; exact Calls.quiet_of_same (pL.out _)))
        obtain ⟨V2, hV2⟩ : ∃ V2, V2 = W.drewN nq := ⟨_, rfl⟩
        have hBV : Below W.heap.size W V2 := by rw [hV2]; exact below_drewN (Below.refl _ _) _
        have hzV : V2.heap.size = W.heap.size := by rw [hV2]; rfl
        have hcV : ∀ p, V2.cell? p = W.cell? p := fun p => by rw [hV2]; rfl
        rw [← hV2]
        have c6' : V2.cell? ⟨g6, 0, none⟩ = some (.int .i64 2) := (hcV _).trans c6
        have cb' : V2.cell? ⟨w.heap.size, 2, none⟩ = some (.slice (a 2) L.length (c 2)) := (hcV _).trans cb
        have HZV := Lib.hid hzV
        clear hV2 c6 cb hcV pL hzV
        go_wp2_with fail
        have hzV := HZV.out
        obtain ⟨X, hX⟩ : ∃ X, X = ((V2.alloc (.cells #[.int .i64 0] 3)).alloc (.cells #[.int .i64 (-1)] 3)) := ⟨_, rfl⟩
        have hBX : Below V2.heap.size V2 X := by rw [hX]; exact ((Below.refl _ V2).alloc (Nat.le_refl _) _).alloc (by simp) _
        have hzX : X.heap.size = V2.heap.size + 2 := by rw [hX]; simp
        have y0 : Blk X V2.heap.size 3 #[.int .i64 0] := by rw [hX]; exact (Blk.new V2 _ _).alloc _
        have y1 : Blk X (V2.heap.size + 1) 3 #[.int .i64 (-1)] := by
          have := Blk.new (V2.alloc (.cells #[.int .i64 0] 3)) 3 #[.int .i64 (-1)]
          rw [World.size_alloc] at this; rw [hX]; exact this
        rw [← hX]
        obtain ⟨g10, hg10⟩ : ∃ g, g = V2.heap.size := ⟨_, rfl⟩
        rw [← hg10] at y0 y1 ⊢
        have hBWX : Below W.heap.size W X := hBV.trans (hBX.mono (by omega))
        have hPX := HPW.out.below hBWX
        have hDX := HDW.out.below hBWX
        have hbx := HBX.out.below hBWX HBX.out.lt
        have hrs := HRS.out.below hBWX HRS.out.lt
        have h6 := H6.out.below hBWX H6.out.lt
        have t1 := T1.out.below hBWX T1.out.lt
        have t2 := T2.out.below hBWX T2.out.lt
        have t3 := T3.out.below hBWX T3.out.lt
        have hmk : Marks (w.heap.size + 2) ds X := HMK.out.keep (fun q o hq ho _ => (hBWX.block q (Array.getElem?_eq_some_iff.1 ho).1).trans ho)
        have hBwX : Below w.heap.size w X := HBW.out.trans (hBWX.mono HBW.out.size)
        have hzg : g10 = W.heap.size := by omega
        have hXg : X.heap.size = g10 + 2 := by omega
        have hown : ∀ g, Own s n g → g < g10 := fun g hg => by rw [hzg]; exact HPW.out.own_lt g hg
        have HMK2 := Lib.hid hmk
        have HRSX := Lib.hid hrs
        have H6X := Lib.hid h6
        have HBXX := Lib.hid hbx
        have HDX := Lib.hid hDX
        have HPX := Lib.hid hPX
        have HBWX := Lib.hid hBwX
        have HXG := Lib.hid hXg
        have hzw2 : wr.heap.size + 3 = g10 := by rw [hzg]; exact HZW.out
        have n6 : g6 < g10 := by omega
        have nb : w.heap.size < g10 := by have := HBX.out.lt; omega
        have nr : w.heap.size + 1 < g10 := by have := HRS.out.lt; omega
        have HOWN := Lib.hid hown
        clear hBV hzV hX hBX hzX hBWX hDX hbx hrs h6 hmk hBwX hg10 hzg c6' cb' g6W HPW HDW HBX HRS H6 T1 T2 T3 HMK HBW HZW hown HZV
        have q1 : wr.heap.size < X.heap.size := by omega
        have q2 : wr.heap.size + 1 < X.heap.size := by omega
        have q3 : wr.heap.size + 2 < X.heap.size := by omega
        have q4 : g10 < X.heap.size := by omega
        have q5 : g10 + 1 < X.heap.size := by omega
        have HZW2 := Lib.hid hzw2
        clear hzw2 hXg
        refine (wpIn_wide (n := 9)).1 ?_
        refine' range_mail (d := 1) (b := 0) (by omega) (by omega) hPX HM.out (t1.cell 0) (t2.cell 0) (t3.cell 0) (by omega) (by omega) (by omega) L HL.out rfl rfl _
          (fun j U => Blk U g10 3 #[.int .i64 (j : Int)] ∧ Blk U (g10 + 1) 3 #[.int .i64 (old (L.take j))] ∧ Touch (fun g => g = g10 ∨ g = g10 + 1) X U) (fun _ _ => False)
          (fun j A C h hb => ⟨h.1.below hb (by omega), h.2.1.below hb (by omega), touch_frB h.2.2 hb⟩) (fun _ _ _ h _ => h) ⟨y0, y1, Touch.refl _ _⟩ ?assign2 ?body2 ?done2 ?stop2
        case assign2 =>
          intro lo sa sl2 sc ag U K2 q hq hfin
          have HQ := Lib.hid hq
          clear hq
          dsimp only [encM]
          gi_wp2
          rw [← HQ.out]
          exact hfin
        case stop2 =>
          rintro D j U hD hj hf _
          exact hf.elim
        case body2 =>
          rintro lo j sa sc ⟨bs, ag⟩ bq U ⟨hv, hv2, hT⟩ hy hbz hbx hrow hz2
          have hjl : j < L.length := (List.getElem?_eq_some_iff.1 hy).1
          have h128' := h128
          have hbwU : Below w.heap.size w U := HBWX.out.trans (hT.below HBWX.out.size (fun k hk => by omega))
          have hDU := HD.out.below hbwU
          have hyL : (m.L 2)[j]? = some (bs, ag) := by rw [← HL.out]; exact hy
          obtain ⟨e0, da, dc, he0, ha0, hv0, hrd⟩ := hDU.got (by omega) hyL
          obtain ⟨ga, hga⟩ := hDU.head (by omega) hyL
          have hlst := hDU.lst 2 (by omega)
          unfold Lst at hlst
          obtain ⟨d0, d1, hcap⟩ : U.cell? ⟨ga, j * 2, none⟩ = some (.slice da bs.length dc) ∧ U.cell? ⟨ga, j * 2 + 1, none⟩ = some (.int .i64 ag) ∧ L.length ≤ c 2 := by
            rcases hlst.form with ⟨_, h0, hx0⟩ | ⟨g', cap, hv', hnc, hcm2, _, hg, hc, _⟩
            · have := (List.getElem?_eq_some_iff.1 he0).1; omega
            · obtain ⟨q1, q2, q3⟩ := Value.slice.inj hv'
              rw [hga] at q1
              cases q1
              have f0 := flat_get (cs := ecs) (s := 2) (fun _ => rfl) (es 2) he0 (i := 0) (by omega)
              have f1 := flat_get (cs := ecs) (s := 2) (fun _ => rfl) (es 2) he0 (i := 1) (by omega)
              have e1 := hc (j * 2) _ f0
              have e2 := hc (j * 2 + 1) _ f1
              rw [hv0] at e1
              refine ⟨e1, by have z := ha0; dsimp only at z; rw [← z]; exact e2, ?_⟩
              rw [HL.out, ← hDU.len 2 (by omega), ← hDU.ln 2 (by omega)]
              obtain ⟨a', c', e', h', _⟩ := hlst.slice
              obtain ⟨z1, z2, z3⟩ := Value.slice.inj e'
              omega
          have hbx6 := H6X.out.touch hT (by omega)
          have hbxb := HBXX.out.touch hT (by omega)
          have b6 : U.cell? ⟨g6, 0, none⟩ = some (.int .i64 2) := hbx6.cell 0
          have bb : U.cell? ⟨w.heap.size, 2, none⟩ = some (.slice (some ⟨ga, 0, none⟩) L.length (c 2)) := (hbxb.cell 2).trans (by show some (Value.slice (a 2) (l 2) (c 2)) = _; rw [HL2.out, hga])
          have b10 : U.cell? ⟨g10, 0, none⟩ = some (.int .i64 (j : Int)) := hv.cell 0
          have f10 := hv.frozen 0
          obtain ⟨ov, hov⟩ : ∃ ov, ov = old (L.take j) := ⟨_, rfl⟩
          rw [← hov] at hv2
          have b11 : U.cell? ⟨g10 + 1, 0, none⟩ = some (.int .i64 ov) := hv2.cell 0
          have f11 := hv2.frozen 0
          have e0' : U.cell? ⟨bq, 0, none⟩ = some (.slice sa bs.length sc) := hbx.cell 0
          have e1' : U.cell? ⟨bq, 1, none⟩ = some (.int .i64 ag) := hbx.cell 1
          have hos := old_succ L j hy
          dsimp only at hos
          rw [← hov] at hos
          obtain ⟨bl, hbl⟩ : ∃ bl, bl = bs.length := ⟨_, rfl⟩
          have hsz := HM.out.sz 2 (by omega) (bs, ag) (List.mem_of_getElem? hyL)
          dsimp only at hsz
          have hrd' := hrd.row
          dsimp only at hrd' hrow
          rw [← hbl] at e0' d0 hrow hrd' hsz ⊢
          have pS := Lib.hid (fun i => same_bytesQ (U.drewN i) sa da bl sc dc bs (by exact hrow) (by exact hrd') (by omega))
          have ji0 : (0 : Int) ≤ (j : Int) := by omega
          have ji1 : (j : Int) < (L.length : Int) := by omega
          have ji2 : ¬ (L.length : Int) ≤ (j : Int) := by omega
          have ji3 : ¬ L.length ≤ j := by omega
          have ji4 : (j : Int) < (c 2 : Int) := by omega
          have ji6 : decide (L.length ≤ j) = false := by simpa using ji3
          have ji5 : IntKind.i64.wrap ((j : Int) + 1) = (j : Int) + 1 := IntWalk.i64_in _ (by omega)
          obtain ⟨ag1, ag2⟩ := hsz.2
          have hmax : -9223372036854775808 ≤ ag ∧ ag ≤ 9223372036854775807 := by omega
          have ne10 : ¬ g10 + 1 = g10 := by omega
          have FIN := Lib.hid (fun (q : Nat) (u : Int) (hu : u = max ov ag) => (show KeepsFrom X.heap.size U (((U.drewN q).setCell ⟨g10 + 1, 0, none⟩ (.int .i64 u)).setCell ⟨g10, 0, none⟩ (.int .i64 ((j : Int) + 1))) ∧ KeepZ (Own s n) U (((U.drewN q).setCell ⟨g10 + 1, 0, none⟩ (.int .i64 u)).setCell ⟨g10, 0, none⟩ (.int .i64 ((j : Int) + 1))) ∧
              Blk (((U.drewN q).setCell ⟨g10 + 1, 0, none⟩ (.int .i64 u)).setCell ⟨g10, 0, none⟩ (.int .i64 ((j : Int) + 1))) g10 3 #[.int .i64 ((j + 1 : Nat) : Int)] ∧ Blk (((U.drewN q).setCell ⟨g10 + 1, 0, none⟩ (.int .i64 u)).setCell ⟨g10, 0, none⟩ (.int .i64 ((j : Int) + 1))) (g10 + 1) 3 #[.int .i64 (old (L.take (j + 1)))] ∧
              Touch (fun g => g = g10 ∨ g = g10 + 1) X (((U.drewN q).setCell ⟨g10 + 1, 0, none⟩ (.int .i64 u)).setCell ⟨g10, 0, none⟩ (.int .i64 ((j : Int) + 1))) by
            have hts : Touch (fun g => g = g10 ∨ g = g10 + 1) U (((U.drewN q).setCell ⟨g10 + 1, 0, none⟩ (.int .i64 u)).setCell ⟨g10, 0, none⟩ (.int .i64 ((j : Int) + 1))) := (((Touch.refl (fun g => g = g10 ∨ g = g10 + 1) U).drewN q).setCell (p := ⟨g10 + 1, 0, none⟩) (.inl (.inr rfl)) _).setCell (p := ⟨g10, 0, none⟩) (.inl (.inl rfl)) _
            refine ⟨⟨hts.size, fun k o hk ho _ => (hts.block k (Array.getElem?_eq_some_iff.1 ho).1 (by omega)).trans ho⟩, ⟨fun k hk => hts.block k (by have := HOWN.out k hk; omega) (by have := HOWN.out k hk; omega), hts.size⟩, ?_, ?_, hT.trans hts (fun k hk => .inl hk)⟩
            · have := ((hv.drewN q).far (p := ⟨g10 + 1, 0, none⟩) (by simp) (.int .i64 u)).set_ 0 (.int .i64 ((j : Int) + 1))
              push_cast
              exact this
            · have := ((hv2.drewN q).set_ 0 (.int .i64 u)).far (p := ⟨g10, 0, none⟩) (by simp) (.int .i64 ((j : Int) + 1))
              rw [hos, ← hu]
              exact this))
          clear hv hv2 hT hbx hrow hrd hrd' hbwU hDU hyL he0 ha0 hv0 hga hlst hbx6 hbxb hov hos hsz hy hbl hnf
          by_cases cc : ov < ag
          · have m2 : max ov ag = ag := by omega
            have M2 := Lib.hid m2.symm
            have m1 : (if ov < ag then ag else ov) = ag := if_pos cc
            clear m2
            gi_wp2
            refine wpIn_region_quiet_round lo (by kernel_rfl) (by kernel_rfl) (by kernel_rfl) ?_
            repeat (gi_big_quiet_step (fail))
            refine wpQuietIn_step (by simp [Oper.askedIn, Oper.about, Fence.wide]) (fun K hK => ?_)
            go_simp
            apply Exists.intro
            refine ⟨fun _ => ?_, hK _ ?_⟩
            · gi_at_call 14
              refine CallsIn.quiet_of ((callsIn_wide (n := _)).2 (pS.out _))
            clear hK K
            repeat (gi_big_quiet_step (fail))
            refine wpQuietIn_nil ?_
            intro _ hw'
            obtain ⟨nq, hw''⟩ := hw'
            subst hw''
            gi_wp2
            exact FIN.out _ _ M2.out
          · have m2 : max ov ag = ov := by omega
            have M2 := Lib.hid m2.symm
            clear m2
            gi_wp2
            refine wpIn_region_quiet_round lo (by kernel_rfl) (by kernel_rfl) (by kernel_rfl) ?_
            repeat (gi_big_quiet_step (fail))
            refine wpQuietIn_step (by simp [Oper.askedIn, Oper.about, Fence.wide]) (fun K hK => ?_)
            go_simp
            apply Exists.intro
            refine ⟨fun _ => ?_, hK _ ?_⟩
            · gi_at_call 14
              refine CallsIn.quiet_of ((callsIn_wide (n := _)).2 (pS.out _))
            clear hK K
            repeat (gi_big_quiet_step (fail))
            refine wpQuietIn_nil ?_
            intro _ hw'
            obtain ⟨nq, hw''⟩ := hw'
            subst hw''
            gi_wp2
            exact FIN.out _ _ M2.out
        case done2 =>
          rintro D U hD ⟨hv, hv2, hT⟩ hdf
          rw [List.take_of_length_le (Nat.le_refl _)] at hv2
          have hbwU : Below w.heap.size w U := HBWX.out.trans (hT.below HBWX.out.size (fun k hk => by omega))
          have hzXU := hT.size
          have hmU : Marks (w.heap.size + 2) ds U := HMK2.out.keep (fun q o hq ho hc => (hT.block q (Array.getElem?_eq_some_iff.1 ho).1 (fun e => by
            rcases e with e | e
            · rw [e, y0] at ho; cases ho; cases hc
            · rw [e, y1] at ho; cases ho; cases hc)).trans ho)
          have hbx6 := H6X.out.touch hT (by omega)
          have hbxb := HBXX.out.touch hT (by omega)
          have hbxr := HRSX.out.touch hT (by omega)
          have hPU := HP.out.below hbwU
          have cO := regrown U (v := .int .i64 (old L)) (fun W hb => by
            have := oldest_in W n 1 0 B cm s m (by omega) (by omega) (hPU.below hb) HM.out hcm
            rw [HL.out]
            exact this)
          have q10 : ∀ d os, (grow (redrawn U d) os).cell? ⟨g10, 0, none⟩ = some (.int .i64 (L.length : Int)) := cell_regrown (hv.cell 0)
          have q11 : ∀ d os, (grow (redrawn U d) os).cell? ⟨g10 + 1, 0, none⟩ = some (.int .i64 (old L)) := cell_regrown (hv2.cell 0)
          have q6 : ∀ d os, (grow (redrawn U d) os).cell? ⟨g6, 0, none⟩ = some (.int .i64 2) := cell_regrown (hbx6.cell 0)
          have qb : ∀ d os, (grow (redrawn U d) os).cell? ⟨w.heap.size, 2, none⟩ = some (.slice (a 2) L.length (c 2)) := cell_regrown ((hbxb.cell 2).trans (by show some (Value.slice (a 2) (l 2) (c 2)) = _; rw [HL2.out]))
          obtain ⟨ol, hol⟩ : ∃ ol, ol = old L := ⟨_, rfl⟩
          rw [← hol] at cO q11
          have HU6 := Lib.hid hbx6
          have HUB := Lib.hid hbxb
          have HUR := Lib.hid hbxr
          have HBWU := Lib.hid hbwU
          have HMU := Lib.hid hmU
          have HDF := Lib.hid hdf
          have HDX2 := Lib.hid hD
          have HZXU := Lib.hid hzXU
          clear hv hv2 hT hbx6 hbxb hbxr hbwU hPU hol hmU hdf hD hzXU
          go_upto_region 17 with fail
          refine wp_region_quiet_below (by kernel_rfl) (by kernel_rfl) ?_
          repeat (quiet_step (exact cO _ _))
          refine wpQuiet_nil ?_
          intro U2 hw'
          obtain ⟨⟨dq, osq⟩, hw''⟩ := hw'
          have hb2 : Below U.heap.size U U2 := by rw [hw'']; exact below_regrown _ _ _
          clear hw'' cO q10 q11 q6 qb
          have u6 := HU6.out.below hb2 HU6.out.lt
          have ub := HUB.out.below hb2 HUB.out.lt
          have ur := HUR.out.below hb2 HUR.out.lt
          have b6 : U2.cell? ⟨g6, 0, none⟩ = some (.int .i64 2) := u6.cell 0
          obtain ⟨g7, hg7⟩ : ∃ g, g = U2.heap.size := ⟨_, rfl⟩
          have hz2 := hb2.size
          have hX1 := HZXU.out
          have FIN := Lib.hid (show SI w m a l c (2 + 1) (.int .i64 (sl + (L.length : Int))) (.pointer (some ⟨g7, 0, none⟩)) ({ target := .collected D, args := #[] } :: ds) (U2.alloc (.cells #[.int .i64 ((2 + 1 : Nat) : Int)] 3)) by
            have hba : Below U2.heap.size U2 (U2.alloc (.cells #[.int .i64 ((2 + 1 : Nat) : Int)] 3)) := (Below.refl _ _).alloc (Nat.le_refl _) _
            refine ⟨by omega, by rw [HSE.out, HL.out]; rfl, ⟨g7, rfl, by omega, by rw [hg7]; exact Blk.new _ _ _⟩, ub.alloc _, ur.alloc _, (HBWU.out.trans (hb2.mono HBWU.out.size)).trans (hba.mono (by have := HBWU.out.size; omega)), ?_⟩
            have hds : U.heap[D]? = some (.deferred (some [])) := HDF.out
            have hD2 : (U2.alloc (.cells #[.int .i64 ((2 + 1 : Nat) : Int)] 3)).heap[D]? = some (.deferred (some [])) := (heap_old U2 _ (Nat.lt_of_lt_of_le (Array.getElem?_eq_some_iff.1 hds).1 hz2)).trans ((hb2.block D (Array.getElem?_eq_some_iff.1 hds).1).trans hds)
            refine Marks.cons ?_ HMK2.out HDX2.out (by have := HDX2.out; omega) hD2
            exact HMU.out.keep (fun q o hq ho _ => (heap_old U2 _ (Nat.lt_of_lt_of_le (Array.getElem?_eq_some_iff.1 ho).1 hz2)).trans ((hb2.block q (Array.getElem?_eq_some_iff.1 ho).1).trans ho)))
          have HG7 := Lib.hid hg7
          clear u6 ub ur hb2 hz2 hX1 hg7 nb nr n6 q1 q2 q3 q4 q5 y0 y1 t1 t2 t3 hPX
          go_wp2_with fail
          go_roundg (4 - (2 + 1))
          case measure => omega
          case rel =>
            refine ⟨2 + 1, rfl, ?_⟩
            rw [← HG7.out]
            exact FIN.out
      · have c6 : wr.cell? ⟨g6, 0, none⟩ = some (.int .i64 3) := hb6.cell 0
        obtain ⟨sl, hsle⟩ : ∃ sl, sl = sumLen m 3 := ⟨_, rfl⟩
        have hs1 := hsl.1
        have hs2 := hsl.2
        rw [← hsle] at hs1 hs2 ⊢
        have HSE := Lib.hid hsle
        have HI := Lib.hid hI
        have HB6 := Lib.hid hb6
        have pA := Lib.hid (fun W => all_any W n 1 1)
        clear hsl hsle hI hb6 hlt hk4
        go_wp2_with fail
        go_quiet (fail)
        obtain ⟨V, hV⟩ : ∃ V, V = wr.drewN nq := ⟨_, rfl⟩
        have hBV : Below wr.heap.size wr V := by rw [hV]; exact below_drewN (Below.refl _ _) _
        have hzV : V.heap.size = wr.heap.size := by rw [hV]; rfl
        rw [← hV]
        clear hV
        go_wp2_with fail
        refine (pA.out _).mono ?_
        rintro e w' ⟨rfl, rfl⟩
        obtain ⟨W, hW⟩ : ∃ W, W = (((V.alloc (.cells #[.pointer (some ⟨n, 0, none⟩)] 25)).alloc (.cells #[.int .i64 1] 3)).alloc (.cells #[.int .i64 1] 3)) := ⟨_, rfl⟩
        have hBW : Below V.heap.size V W := by rw [hW]; exact (((Below.refl _ V).alloc (Nat.le_refl _) _).alloc (by simp) _).alloc (by simp; omega) _
        have hzW : W.heap.size = V.heap.size + 3 := by rw [hW]; simp
        have t1 : Blk W V.heap.size 25 #[.pointer (some ⟨n, 0, none⟩)] := by rw [hW]; exact ((Blk.new V _ _).alloc _).alloc _
        have t2 : Blk W (V.heap.size + 1) 3 #[.int .i64 1] := by
          have := (Blk.new (V.alloc (.cells #[.pointer (some ⟨n, 0, none⟩)] 25)) 3 #[.int .i64 1]).alloc (.cells #[.int .i64 1] 3)
          rw [World.size_alloc] at this; rw [hW]; exact this
        have t3 : Blk W (V.heap.size + 2) 3 #[.int .i64 1] := by
          have := Blk.new ((V.alloc (.cells #[.pointer (some ⟨n, 0, none⟩)] 25)).alloc (.cells #[.int .i64 1] 3)) 3 #[.int .i64 1]
          rw [World.size_alloc, World.size_alloc] at this; rw [hW]; exact this
        rw [← hW]
        have hwr : Below w.heap.size w wr := HI.out.below
        have hzr : w.heap.size ≤ wr.heap.size := hwr.size
        have hB1 : Below wr.heap.size wr W := hBV.trans (hBW.mono (by omega))
        have hBw : Below w.heap.size w W := hwr.trans (hB1.mono hzr)
        have hbx := HI.out.box.below hB1 HI.out.box.lt
        have hrs := HI.out.res.below hB1 HI.out.res.lt
        have h6 := HB6.out.below hB1 HB6.out.lt
        have hPW := HP.out.below hBw
        have hDW := HD.out.below hBw
        have hmk : Marks (w.heap.size + 2) ds W := HI.out.marks.keep (fun q o hq ho _ => (hB1.block q (Array.getElem?_eq_some_iff.1 ho).1).trans ho)
        obtain ⟨pa, pcp, _, hpc⟩ := hPW.net.slice (k := 3) (by omega)
        have hlen1 := hPW.len 3 (by omega)
        have hlen2 := (hDW.ln 3 (by omega)).trans (hDW.len 3 (by omega))
        have h128 := HM.out.len 3 (by omega)
        obtain ⟨L, hL⟩ : ∃ L, L = m.L 3 := ⟨_, rfl⟩
        rw [← hL] at hlen1 hlen2 h128
        rw [hlen1] at hpc
        have pL := Lib.hid (fun j => len_in' (W.drewN j) n 1 1 L.length pcp pa (by omega) (by omega) (by exact hpc))
        have c6 : W.cell? ⟨g6, 0, none⟩ = some (.int .i64 3) := h6.cell 0
        have cb : W.cell? ⟨w.heap.size, 3, none⟩ = some (.slice (a 3) L.length (c 3)) := (hbx.cell 3).trans (by show some (Value.slice (a 3) (l 3) (c 3)) = _; rw [hlen2])
        have i4 : ((3 : Nat) : Int) < 4 := by omega
        have HPW := Lib.hid hPW
        have HDW := Lib.hid hDW
        have HBX := Lib.hid hbx
        have HRS := Lib.hid hrs
        have H6 := Lib.hid h6
        have HMK := Lib.hid hmk
        have HBW := Lib.hid hBw
        have HL := Lib.hid hL
        have HL2 := Lib.hid hlen2
        have T1 := Lib.hid t1
        have T2 := Lib.hid t2
        have T3 := Lib.hid t3
        have hzw : wr.heap.size + 3 = W.heap.size := by omega
        have HZW := Lib.hid hzw
        have g6W : g6 < W.heap.size := h6.lt
        rw [hzV] at T1 T2 T3 ⊢
        clear hBV hzV hBW hzW hW t1 t2 t3 hwr hB1 hBw hbx hrs h6 hPW hDW hmk hpc hlen1 hlen2 hL HI HB6 pA hzw
        go_upto_region 7 with fail
        go_quiet ((go_at_call 15; exact Calls.quiet_of_same (pL.out _)))
        obtain ⟨V2, hV2⟩ : ∃ V2, V2 = W.drewN nq := ⟨_, rfl⟩
        have hBV : Below W.heap.size W V2 := by rw [hV2]; exact below_drewN (Below.refl _ _) _
        have hzV : V2.heap.size = W.heap.size := by rw [hV2]; rfl
        have hcV : ∀ p, V2.cell? p = W.cell? p := fun p => by rw [hV2]; rfl
        rw [← hV2]
        have c6' : V2.cell? ⟨g6, 0, none⟩ = some (.int .i64 3) := (hcV _).trans c6
        have cb' : V2.cell? ⟨w.heap.size, 3, none⟩ = some (.slice (a 3) L.length (c 3)) := (hcV _).trans cb
        have HZV := Lib.hid hzV
        clear hV2 c6 cb hcV pL hzV
        go_wp2_with fail
        have hzV := HZV.out
        obtain ⟨X, hX⟩ : ∃ X, X = ((V2.alloc (.cells #[.int .i64 0] 3)).alloc (.cells #[.int .i64 (-1)] 3)) := ⟨_, rfl⟩
        have hBX : Below V2.heap.size V2 X := by rw [hX]; exact ((Below.refl _ V2).alloc (Nat.le_refl _) _).alloc (by simp) _
        have hzX : X.heap.size = V2.heap.size + 2 := by rw [hX]; simp
        have y0 : Blk X V2.heap.size 3 #[.int .i64 0] := by rw [hX]; exact (Blk.new V2 _ _).alloc _
        have y1 : Blk X (V2.heap.size + 1) 3 #[.int .i64 (-1)] := by
          have := Blk.new (V2.alloc (.cells #[.int .i64 0] 3)) 3 #[.int .i64 (-1)]
          rw [World.size_alloc] at this; rw [hX]; exact this
        rw [← hX]
        obtain ⟨g10, hg10⟩ : ∃ g, g = V2.heap.size := ⟨_, rfl⟩
        rw [← hg10] at y0 y1 ⊢
        have hBWX : Below W.heap.size W X := hBV.trans (hBX.mono (by omega))
        have hPX := HPW.out.below hBWX
        have hDX := HDW.out.below hBWX
        have hbx := HBX.out.below hBWX HBX.out.lt
        have hrs := HRS.out.below hBWX HRS.out.lt
        have h6 := H6.out.below hBWX H6.out.lt
        have t1 := T1.out.below hBWX T1.out.lt
        have t2 := T2.out.below hBWX T2.out.lt
        have t3 := T3.out.below hBWX T3.out.lt
        have hmk : Marks (w.heap.size + 2) ds X := HMK.out.keep (fun q o hq ho _ => (hBWX.block q (Array.getElem?_eq_some_iff.1 ho).1).trans ho)
        have hBwX : Below w.heap.size w X := HBW.out.trans (hBWX.mono HBW.out.size)
        have hzg : g10 = W.heap.size := by omega
        have hXg : X.heap.size = g10 + 2 := by omega
        have hown : ∀ g, Own s n g → g < g10 := fun g hg => by rw [hzg]; exact HPW.out.own_lt g hg
        have HMK2 := Lib.hid hmk
        have HRSX := Lib.hid hrs
        have H6X := Lib.hid h6
        have HBXX := Lib.hid hbx
        have HDX := Lib.hid hDX
        have HPX := Lib.hid hPX
        have HBWX := Lib.hid hBwX
        have HXG := Lib.hid hXg
        have hzw2 : wr.heap.size + 3 = g10 := by rw [hzg]; exact HZW.out
        have n6 : g6 < g10 := by omega
        have nb : w.heap.size < g10 := by have := HBX.out.lt; omega
        have nr : w.heap.size + 1 < g10 := by have := HRS.out.lt; omega
        have HOWN := Lib.hid hown
        clear hBV hzV hX hBX hzX hBWX hDX hbx hrs h6 hmk hBwX hg10 hzg c6' cb' g6W HPW HDW HBX HRS H6 T1 T2 T3 HMK HBW HZW hown HZV
        have q1 : wr.heap.size < X.heap.size := by omega
        have q2 : wr.heap.size + 1 < X.heap.size := by omega
        have q3 : wr.heap.size + 2 < X.heap.size := by omega
        have q4 : g10 < X.heap.size := by omega
        have q5 : g10 + 1 < X.heap.size := by omega
        have HZW2 := Lib.hid hzw2
        clear hzw2 hXg
        refine (wpIn_wide (n := 9)).1 ?_
        refine' range_mail (d := 1) (b := 1) (by omega) (by omega) hPX HM.out (t1.cell 0) (t2.cell 0) (t3.cell 0) (by omega) (by omega) (by omega) L HL.out rfl rfl _
          (fun j U => Blk U g10 3 #[.int .i64 (j : Int)] ∧ Blk U (g10 + 1) 3 #[.int .i64 (old (L.take j))] ∧ Touch (fun g => g = g10 ∨ g = g10 + 1) X U) (fun _ _ => False)
          (fun j A C h hb => ⟨h.1.below hb (by omega), h.2.1.below hb (by omega), touch_frB h.2.2 hb⟩) (fun _ _ _ h _ => h) ⟨y0, y1, Touch.refl _ _⟩ ?assign3 ?body3 ?done3 ?stop3
        case assign3 =>
          intro lo sa sl2 sc ag U K2 q hq hfin
          have HQ := Lib.hid hq
          clear hq
          dsimp only [encM]
          gi_wp2
          rw [← HQ.out]
          exact hfin
        case stop3 =>
          rintro D j U hD hj hf _
          exact hf.elim
        case body3 =>
          rintro lo j sa sc ⟨bs, ag⟩ bq U ⟨hv, hv2, hT⟩ hy hbz hbx hrow hz2
          have hjl : j < L.length := (List.getElem?_eq_some_iff.1 hy).1
          have h128' := h128
          have hbwU : Below w.heap.size w U := HBWX.out.trans (hT.below HBWX.out.size (fun k hk => by omega))
          have hDU := HD.out.below hbwU
          have hyL : (m.L 3)[j]? = some (bs, ag) := by rw [← HL.out]; exact hy
          obtain ⟨e0, da, dc, he0, ha0, hv0, hrd⟩ := hDU.got (by omega) hyL
          obtain ⟨ga, hga⟩ := hDU.head (by omega) hyL
          have hlst := hDU.lst 3 (by omega)
          unfold Lst at hlst
          obtain ⟨d0, d1, hcap⟩ : U.cell? ⟨ga, j * 2, none⟩ = some (.slice da bs.length dc) ∧ U.cell? ⟨ga, j * 2 + 1, none⟩ = some (.int .i64 ag) ∧ L.length ≤ c 3 := by
            rcases hlst.form with ⟨_, h0, hx0⟩ | ⟨g', cap, hv', hnc, hcm2, _, hg, hc, _⟩
            · have := (List.getElem?_eq_some_iff.1 he0).1; omega
            · obtain ⟨q1, q2, q3⟩ := Value.slice.inj hv'
              rw [hga] at q1
              cases q1
              have f0 := flat_get (cs := ecs) (s := 2) (fun _ => rfl) (es 3) he0 (i := 0) (by omega)
              have f1 := flat_get (cs := ecs) (s := 2) (fun _ => rfl) (es 3) he0 (i := 1) (by omega)
              have e1 := hc (j * 2) _ f0
              have e2 := hc (j * 2 + 1) _ f1
              rw [hv0] at e1
              refine ⟨e1, by have z := ha0; dsimp only at z; rw [← z]; exact e2, ?_⟩
              rw [HL.out, ← hDU.len 3 (by omega), ← hDU.ln 3 (by omega)]
              obtain ⟨a', c', e', h', _⟩ := hlst.slice
              obtain ⟨z1, z2, z3⟩ := Value.slice.inj e'
              omega
          have hbx6 := H6X.out.touch hT (by omega)
          have hbxb := HBXX.out.touch hT (by omega)
          have b6 : U.cell? ⟨g6, 0, none⟩ = some (.int .i64 3) := hbx6.cell 0
          have bb : U.cell? ⟨w.heap.size, 3, none⟩ = some (.slice (some ⟨ga, 0, none⟩) L.length (c 3)) := (hbxb.cell 3).trans (by show some (Value.slice (a 3) (l 3) (c 3)) = _; rw [HL2.out, hga])
          have b10 : U.cell? ⟨g10, 0, none⟩ = some (.int .i64 (j : Int)) := hv.cell 0
          have f10 := hv.frozen 0
          obtain ⟨ov, hov⟩ : ∃ ov, ov = old (L.take j) := ⟨_, rfl⟩
          rw [← hov] at hv2
          have b11 : U.cell? ⟨g10 + 1, 0, none⟩ = some (.int .i64 ov) := hv2.cell 0
          have f11 := hv2.frozen 0
          have e0' : U.cell? ⟨bq, 0, none⟩ = some (.slice sa bs.length sc) := hbx.cell 0
          have e1' : U.cell? ⟨bq, 1, none⟩ = some (.int .i64 ag) := hbx.cell 1
          have hos := old_succ L j hy
          dsimp only at hos
          rw [← hov] at hos
          obtain ⟨bl, hbl⟩ : ∃ bl, bl = bs.length := ⟨_, rfl⟩
          have hsz := HM.out.sz 3 (by omega) (bs, ag) (List.mem_of_getElem? hyL)
          dsimp only at hsz
          have hrd' := hrd.row
          dsimp only at hrd' hrow
          rw [← hbl] at e0' d0 hrow hrd' hsz ⊢
          have pS := Lib.hid (fun i => same_bytesQ (U.drewN i) sa da bl sc dc bs (by exact hrow) (by exact hrd') (by omega))
          have ji0 : (0 : Int) ≤ (j : Int) := by omega
          have ji1 : (j : Int) < (L.length : Int) := by omega
          have ji2 : ¬ (L.length : Int) ≤ (j : Int) := by omega
          have ji3 : ¬ L.length ≤ j := by omega
          have ji4 : (j : Int) < (c 3 : Int) := by omega
          have ji6 : decide (L.length ≤ j) = false := by simpa using ji3
          have ji5 : IntKind.i64.wrap ((j : Int) + 1) = (j : Int) + 1 := IntWalk.i64_in _ (by omega)
          obtain ⟨ag1, ag2⟩ := hsz.2
          have hmax : -9223372036854775808 ≤ ag ∧ ag ≤ 9223372036854775807 := by omega
          have ne10 : ¬ g10 + 1 = g10 := by omega
          have FIN := Lib.hid (fun (q : Nat) (u : Int) (hu : u = max ov ag) => (show KeepsFrom X.heap.size U (((U.drewN q).setCell ⟨g10 + 1, 0, none⟩ (.int .i64 u)).setCell ⟨g10, 0, none⟩ (.int .i64 ((j : Int) + 1))) ∧ KeepZ (Own s n) U (((U.drewN q).setCell ⟨g10 + 1, 0, none⟩ (.int .i64 u)).setCell ⟨g10, 0, none⟩ (.int .i64 ((j : Int) + 1))) ∧
              Blk (((U.drewN q).setCell ⟨g10 + 1, 0, none⟩ (.int .i64 u)).setCell ⟨g10, 0, none⟩ (.int .i64 ((j : Int) + 1))) g10 3 #[.int .i64 ((j + 1 : Nat) : Int)] ∧ Blk (((U.drewN q).setCell ⟨g10 + 1, 0, none⟩ (.int .i64 u)).setCell ⟨g10, 0, none⟩ (.int .i64 ((j : Int) + 1))) (g10 + 1) 3 #[.int .i64 (old (L.take (j + 1)))] ∧
              Touch (fun g => g = g10 ∨ g = g10 + 1) X (((U.drewN q).setCell ⟨g10 + 1, 0, none⟩ (.int .i64 u)).setCell ⟨g10, 0, none⟩ (.int .i64 ((j : Int) + 1))) by
            have hts : Touch (fun g => g = g10 ∨ g = g10 + 1) U (((U.drewN q).setCell ⟨g10 + 1, 0, none⟩ (.int .i64 u)).setCell ⟨g10, 0, none⟩ (.int .i64 ((j : Int) + 1))) := (((Touch.refl (fun g => g = g10 ∨ g = g10 + 1) U).drewN q).setCell (p := ⟨g10 + 1, 0, none⟩) (.inl (.inr rfl)) _).setCell (p := ⟨g10, 0, none⟩) (.inl (.inl rfl)) _
            refine ⟨⟨hts.size, fun k o hk ho _ => (hts.block k (Array.getElem?_eq_some_iff.1 ho).1 (by omega)).trans ho⟩, ⟨fun k hk => hts.block k (by have := HOWN.out k hk; omega) (by have := HOWN.out k hk; omega), hts.size⟩, ?_, ?_, hT.trans hts (fun k hk => .inl hk)⟩
            · have := ((hv.drewN q).far (p := ⟨g10 + 1, 0, none⟩) (by simp) (.int .i64 u)).set_ 0 (.int .i64 ((j : Int) + 1))
              push_cast
              exact this
            · have := ((hv2.drewN q).set_ 0 (.int .i64 u)).far (p := ⟨g10, 0, none⟩) (by simp) (.int .i64 ((j : Int) + 1))
              rw [hos, ← hu]
              exact this))
          clear hv hv2 hT hbx hrow hrd hrd' hbwU hDU hyL he0 ha0 hv0 hga hlst hbx6 hbxb hov hos hsz hy hbl hnf
          by_cases cc : ov < ag
          · have m2 : max ov ag = ag := by omega
            have M2 := Lib.hid m2.symm
            have m1 : (if ov < ag then ag else ov) = ag := if_pos cc
            clear m2
            gi_wp2
            refine wpIn_region_quiet_round lo (by kernel_rfl) (by kernel_rfl) (by kernel_rfl) ?_
            repeat (gi_big_quiet_step (fail))
            refine wpQuietIn_step (by simp [Oper.askedIn, Oper.about, Fence.wide]) (fun K hK => ?_)
            go_simp
            apply Exists.intro
            refine ⟨fun _ => ?_, hK _ ?_⟩
            · gi_at_call 14
              refine CallsIn.quiet_of ((callsIn_wide (n := _)).2 (pS.out _))
            clear hK K
            repeat (gi_big_quiet_step (fail))
            refine wpQuietIn_nil ?_
            intro _ hw'
            obtain ⟨nq, hw''⟩ := hw'
            subst hw''
            gi_wp2
            exact FIN.out _ _ M2.out
          · have m2 : max ov ag = ov := by omega
            have M2 := Lib.hid m2.symm
            clear m2
            gi_wp2
            refine wpIn_region_quiet_round lo (by kernel_rfl) (by kernel_rfl) (by kernel_rfl) ?_
            repeat (gi_big_quiet_step (fail))
            refine wpQuietIn_step (by simp [Oper.askedIn, Oper.about, Fence.wide]) (fun K hK => ?_)
            go_simp
            apply Exists.intro
            refine ⟨fun _ => ?_, hK _ ?_⟩
            · gi_at_call 14
              refine CallsIn.quiet_of ((callsIn_wide (n := _)).2 (pS.out _))
            clear hK K
            repeat (gi_big_quiet_step (fail))
            refine wpQuietIn_nil ?_
            intro _ hw'
            obtain ⟨nq, hw''⟩ := hw'
            subst hw''
            gi_wp2
            exact FIN.out _ _ M2.out
        case done3 =>
          rintro D U hD ⟨hv, hv2, hT⟩ hdf
          rw [List.take_of_length_le (Nat.le_refl _)] at hv2
          have hbwU : Below w.heap.size w U := HBWX.out.trans (hT.below HBWX.out.size (fun k hk => by omega))
          have hzXU := hT.size
          have hmU : Marks (w.heap.size + 2) ds U := HMK2.out.keep (fun q o hq ho hc => (hT.block q (Array.getElem?_eq_some_iff.1 ho).1 (fun e => by
            rcases e with e | e
            · rw [e, y0] at ho; cases ho; cases hc
            · rw [e, y1] at ho; cases ho; cases hc)).trans ho)
          have hbx6 := H6X.out.touch hT (by omega)
          have hbxb := HBXX.out.touch hT (by omega)
          have hbxr := HRSX.out.touch hT (by omega)
          have hPU := HP.out.below hbwU
          have cO := regrown U (v := .int .i64 (old L)) (fun W hb => by
            have := oldest_in W n 1 1 B cm s m (by omega) (by omega) (hPU.below hb) HM.out hcm
            rw [HL.out]
            exact this)
          have q10 : ∀ d os, (grow (redrawn U d) os).cell? ⟨g10, 0, none⟩ = some (.int .i64 (L.length : Int)) := cell_regrown (hv.cell 0)
          have q11 : ∀ d os, (grow (redrawn U d) os).cell? ⟨g10 + 1, 0, none⟩ = some (.int .i64 (old L)) := cell_regrown (hv2.cell 0)
          have q6 : ∀ d os, (grow (redrawn U d) os).cell? ⟨g6, 0, none⟩ = some (.int .i64 3) := cell_regrown (hbx6.cell 0)
          have qb : ∀ d os, (grow (redrawn U d) os).cell? ⟨w.heap.size, 3, none⟩ = some (.slice (a 3) L.length (c 3)) := cell_regrown ((hbxb.cell 3).trans (by show some (Value.slice (a 3) (l 3) (c 3)) = _; rw [HL2.out]))
          obtain ⟨ol, hol⟩ : ∃ ol, ol = old L := ⟨_, rfl⟩
          rw [← hol] at cO q11
          have HU6 := Lib.hid hbx6
          have HUB := Lib.hid hbxb
          have HUR := Lib.hid hbxr
          have HBWU := Lib.hid hbwU
          have HMU := Lib.hid hmU
          have HDF := Lib.hid hdf
          have HDX2 := Lib.hid hD
          have HZXU := Lib.hid hzXU
          clear hv hv2 hT hbx6 hbxb hbxr hbwU hPU hol hmU hdf hD hzXU
          go_upto_region 17 with fail
          refine wp_region_quiet_below (by kernel_rfl) (by kernel_rfl) ?_
          repeat (quiet_step (exact cO _ _))
          refine wpQuiet_nil ?_
          intro U2 hw'
          obtain ⟨⟨dq, osq⟩, hw''⟩ := hw'
          have hb2 : Below U.heap.size U U2 := by rw [hw'']; exact below_regrown _ _ _
          clear hw'' cO q10 q11 q6 qb
          have u6 := HU6.out.below hb2 HU6.out.lt
          have ub := HUB.out.below hb2 HUB.out.lt
          have ur := HUR.out.below hb2 HUR.out.lt
          have b6 : U2.cell? ⟨g6, 0, none⟩ = some (.int .i64 3) := u6.cell 0
          obtain ⟨g7, hg7⟩ : ∃ g, g = U2.heap.size := ⟨_, rfl⟩
          have hz2 := hb2.size
          have hX1 := HZXU.out
          have FIN := Lib.hid (show SI w m a l c (3 + 1) (.int .i64 (sl + (L.length : Int))) (.pointer (some ⟨g7, 0, none⟩)) ({ target := .collected D, args := #[] } :: ds) (U2.alloc (.cells #[.int .i64 ((3 + 1 : Nat) : Int)] 3)) by
            have hba : Below U2.heap.size U2 (U2.alloc (.cells #[.int .i64 ((3 + 1 : Nat) : Int)] 3)) := (Below.refl _ _).alloc (Nat.le_refl _) _
            refine ⟨by omega, by rw [HSE.out, HL.out]; rfl, ⟨g7, rfl, by omega, by rw [hg7]; exact Blk.new _ _ _⟩, ub.alloc _, ur.alloc _, (HBWU.out.trans (hb2.mono HBWU.out.size)).trans (hba.mono (by have := HBWU.out.size; omega)), ?_⟩
            have hds : U.heap[D]? = some (.deferred (some [])) := HDF.out
            have hD2 : (U2.alloc (.cells #[.int .i64 ((3 + 1 : Nat) : Int)] 3)).heap[D]? = some (.deferred (some [])) := (heap_old U2 _ (Nat.lt_of_lt_of_le (Array.getElem?_eq_some_iff.1 hds).1 hz2)).trans ((hb2.block D (Array.getElem?_eq_some_iff.1 hds).1).trans hds)
            refine Marks.cons ?_ HMK2.out HDX2.out (by have := HDX2.out; omega) hD2
            exact HMU.out.keep (fun q o hq ho _ => (heap_old U2 _ (Nat.lt_of_lt_of_le (Array.getElem?_eq_some_iff.1 ho).1 hz2)).trans ((hb2.block q (Array.getElem?_eq_some_iff.1 ho).1).trans ho)))
          have HG7 := Lib.hid hg7
          clear u6 ub ur hb2 hz2 hX1 hg7 nb nr n6 q1 q2 q3 q4 q5 y0 y1 t1 t2 t3 hPX
          go_wp2_with fail
          go_roundg (4 - (3 + 1))
          case measure => omega
          case rel =>
            refine ⟨3 + 1, rfl, ?_⟩
            rw [← HG7.out]
            exact FIN.out
    · obtain rfl : k = 4 := by omega
      have c6 : wr.cell? ⟨g6, 0, none⟩ = some (.int .i64 4) := hb6.cell 0
      obtain ⟨sl, hsle⟩ : ∃ sl, sl = sumLen m 4 := ⟨_, rfl⟩
      rw [← hsle]
      have hPW := HP.out.below hI.below
      have hfl : Calls Try.prog 46 #[.pointer (some ⟨n, 0, none⟩)] wr.drew fun e w' => e = .returned (.int .i64 sl) ∧ wr.drew = w' := by
        obtain ⟨a0, x0, _, h0⟩ := hPW.net.slice (k := 0) (by omega)
        obtain ⟨a1, x1, _, h1⟩ := hPW.net.slice (k := 1) (by omega)
        obtain ⟨a2, x2, _, h2⟩ := hPW.net.slice (k := 2) (by omega)
        obtain ⟨a3, x3, _, h3⟩ := hPW.net.slice (k := 3) (by omega)
        rw [hPW.len 0 (by omega)] at h0
        rw [hPW.len 1 (by omega)] at h1
        rw [hPW.len 2 (by omega)] at h2
        rw [hPW.len 3 (by omega)] at h3
        have z0 := HM.out.len 0 (by omega)
        have z1 := HM.out.len 1 (by omega)
        have z2 := HM.out.len 2 (by omega)
        have z3 := HM.out.len 3 (by omega)
        have := flight_any wr.drew n _ _ _ _ x0 x1 x2 x3 a0 a1 a2 a3 (by exact h0) (by exact h1) (by exact h2) (by exact h3) (by omega) (by omega) (by omega) (by omega)
        have e : sl = ((m.L 0).length : Int) + (m.L 1).length + (m.L 2).length + (m.L 3).length := by rw [hsle]; simp [sumLen]
        rw [e]; exact this
      obtain ⟨cf, cl, cmv⟩ := count_any wr.drew n s (hPW.below (below_drewN (Below.refl _ _) 1)).net
      rw [hPW.full] at cf
      rw [hPW.long] at cl
      rw [hPW.moved] at cmv
      have pF := Lib.hid hfl
      have pA1 := Lib.hid cf
      have pA2 := Lib.hid cl
      have pA3 := Lib.hid cmv
      have b4 : wr.cell? ⟨w.heap.size, 4, none⟩ = some (.int .i64 m.full) := hI.box.cell 4
      have b5 : wr.cell? ⟨w.heap.size, 5, none⟩ = some (.int .i64 m.long) := hI.box.cell 5
      have b6 : wr.cell? ⟨w.heap.size, 6, none⟩ = some (.int .i64 m.moved) := hI.box.cell 6
      have r0 : wr.cell? ⟨w.heap.size + 1, 0, none⟩ = some (.bool false) := hI.res.cell 0
      have fr := hI.res.frozen 0
      have HI := Lib.hid hI
      clear hfl cf cl cmv hPW hI hsl hlt hk4 hb6 hsle
      go_wp2_with fail
      go_region_held3 (fun W' => W'.cell? ⟨w.heap.size, 4, none⟩ = some (.int .i64 m.full) ∧ W'.cell? ⟨w.heap.size, 5, none⟩ = some (.int .i64 m.long) ∧ W'.cell? ⟨w.heap.size, 6, none⟩ = some (.int .i64 m.moved)) (first | go_keep) ((first
        | (go_at_call 46; (with_reducible refine pF.out.mono ?_); rintro e w' ⟨rfl, rfl⟩)
        | (go_at_call 94; (with_reducible refine pA1.out.mono ?_); rintro e w' ⟨rfl, rfl⟩)
        | (go_at_call 95; (with_reducible refine pA2.out.mono ?_); rintro e w' ⟨rfl, rfl⟩)
        | (go_at_call 96; (with_reducible refine pA3.out.mono ?_); rintro e w' ⟨rfl, rfl⟩)))
      all_goals
        go_wp2_with fail
        have hTr : Touch (fun g => g = w.heap.size + 1) wr (wr.drew.setCell ⟨w.heap.size + 1, 0, none⟩ (.bool true)) := ((Touch.refl (fun g => g = w.heap.size + 1) wr).drew).setCell (p := ⟨w.heap.size + 1, 0, none⟩) (.inl rfl) _
        have hres := (Blk.drew HI.out.res).set_ 0 (.bool true)
        have hmk : Marks (w.heap.size + 2) ds (wr.drew.setCell ⟨w.heap.size + 1, 0, none⟩ (.bool true)) := HI.out.marks.keep (fun q o hq ho _ => (hTr.block q (Array.getElem?_eq_some_iff.1 ho).1 (by omega)).trans ho)
        have hlt2 : w.heap.size + 1 < w.heap.size + 2 := by omega
        refine leaves_marks ds _ hmk (fun W' hb => ?_)
        have hr2 := (hres.below hb hlt2).cell 0
        have hr3 : W'.cell? ⟨w.heap.size + 1, 0, none⟩ = some (.bool true) := hr2
        refine ⟨.bool true, ?_, rfl, (HI.out.below.trans (hTr.below HI.out.below.size (fun k hk => by omega))).trans (hb.mono (by omega))⟩
        simp [results, Try.f76, go_sem, hr3]
end Go.Proofs.Ytmceaffoffemlaa.Netw
