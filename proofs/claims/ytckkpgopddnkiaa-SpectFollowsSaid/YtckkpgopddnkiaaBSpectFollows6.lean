/-
  Texts joined: SpW, SpW2, SpW3, SpW4. No condition.
-/
import Derived.Test.YtckkpgopddnkiaaBSpectFollows5
import Derived.WalkMore
namespace Go.Proofs.Ytckkpgopddnkiaa.Spe
open Go.RowKit Go.Shelf Go.Sort Go.Proofs.Ytckkpgopddnkiaa.Byt Go.Proofs.Ytckkpgopddnkiaa.Gm Go.Proofs.Ytckkpgopddnkiaa.RingE Go.Proofs.Ytckkpgopddnkiaa.Num
set_option linter.all false

def lsC (ls : List (Nat × Nat)) : List Value := flat (fun x => (inC x).toList) ls
theorem lsC_len (ls : List (Nat × Nat)) : (lsC ls).length = ls.length * 2 := Go.Proofs.Ytckkpgopddnkiaa.flat_len (cs := fun x : Nat × Nat => (inC x).toList) (s := 2) (fun _ => rfl) ls
theorem lsC_snoc (ls : List (Nat × Nat)) (x : Nat × Nat) : lsC (ls ++ [x]) = lsC ls ++ (inC x).toList := flat_snoc ls x
theorem lsC_one (ls : List (Nat × Nat)) : ∀ u ∈ lsC ls, u.oneCell' = true := one_flat (fun x u hu => by simp [inC] at hu; rcases hu with rfl | rfl <;> rfl) ls
theorem infoI2 : (Try.prog.info? 34).map (fun i => (i.zero, i.size, i.bytes)) = some (some (.agg (inC (0, 0))), 2, 4) := by kernel_rfl
theorem ls_row {W : World} {a : Option Addr} {n c : Nat} {ls : List (Nat × Nat)} (h : On W 34 2 (.slice a n c) ls.length (lsC ls)) (hb : InB ls) : InRow W a ls := by
  refine ⟨hb, fun h0 => ?_⟩
  rcases On.form h with ⟨_, hn, _⟩ | ⟨g, cap, hv, hnc, hcm, how, hgl, hcell, hfr⟩
  · omega
  · cases hv
    refine ⟨g, 0, rfl, hgl, fun j hj => ?_⟩
    have hx : ls[j]? = some ls[j] := List.getElem?_eq_getElem hj
    obtain ⟨e0, e1⟩ := I2.inA_get hx
    have f0 := flat_get (cs := fun x => (inC x).toList) (s := 2) (fun x => rfl) ls hx (i := 0) (by omega)
    have f1 := flat_get (cs := fun x => (inC x).toList) (s := 2) (fun x => rfl) ls hx (i := 1) (by omega)
    rw [e0, e1]
    exact ⟨by rw [Nat.zero_add]; exact hcell _ _ (by rw [← Nat.add_zero (j * 2)]; exact f0), by rw [Nat.zero_add]; exact hcell _ _ f1⟩

/-- A watch's cells. -/
def wA (sd : Nat) (lv : Value) (lag : Int) (C : Array Value) (n : Int) : Array Value := ([Value.int .u32 (sd : Int), lv, .int .i64 lag] ++ (C.toList ++ [Value.int .i64 n])).toArray
section
variable {sd : Nat} {lv : Value} {lag n : Int} {C : Array Value}
theorem wA_size (h : C.size = 66) : (wA sd lv lag C n).size = 70 := by simp [wA, h]
theorem wA_mid (h : C.size = 66) {j : Nat} (hj : j < 66) : (wA sd lv lag C n)[3 + j]? = C[j]? := by
  unfold wA
  rw [List.getElem?_toArray, List.getElem?_append_right (by simp), List.getElem?_append_left (by simp; omega)]
  simp
theorem wA_end (h : C.size = 66) : (wA sd lv lag C n)[69]? = some (.int .i64 n) := by
  unfold wA
  rw [List.getElem?_toArray, List.getElem?_append_right (by simp), List.getElem?_append_right (by simp; omega)]
  simp [h]
theorem wA_set1 (v : Value) : (wA sd lv lag C n).setIfInBounds 1 v = wA sd v lag C n := by
  apply Array.ext'
  simp [wA]
theorem wA_set69 (h : C.size = 66) (m : Int) : (wA sd lv lag C n).setIfInBounds 69 (.int .i64 m) = wA sd lv lag C m := by
  apply Array.ext'
  have h' : C.toList.length = 66 := by simpa using h
  simp [wA, List.set_append, h]
theorem setCells_mid {g : Nat} {t : TypeId} : ∀ (L M A B : List Value) (w : World), Blk w g t (A ++ (M ++ B)).toArray → M.length = L.length → Blk (w.setCells g A.length L) g t (A ++ (L ++ B)).toArray
  | [], [], A, B, w, h, _ => h
  | [], m :: M, A, B, w, _, hl => by simp at hl
  | v :: L, [], A, B, w, _, hl => by simp at hl
  | v :: L, m :: M, A, B, w, h, hl => by
    have h1 := Blk.set_ h A.length v
    have e : (A ++ (m :: M ++ B)).toArray.setIfInBounds A.length v = ((A ++ [v]) ++ (M ++ B)).toArray := by
      apply Array.ext'
      simp [List.set_append]
    rw [e] at h1
    have h2 := setCells_mid L M (A ++ [v]) B _ h1 (by simpa using hl)
    rw [List.length_append, List.length_singleton, show A ++ [v] ++ (L ++ B) = A ++ (v :: L ++ B) by simp] at h2
    exact h2
end
/-- A watch in memory. -/
structure Wt (w : World) (b sd : Nat) (lv : Value) (lag : Int) (C : Array Value) (f : F) (n : Int) (ls : List (Nat × Nat)) : Prop where
  st : Let C f
  blk : Blk w b 114 (wA sd lv lag C n)
  lst : On w 34 2 lv ls.length (lsC ls)
section
variable {w w' : World} {b sd : Nat} {lv : Value} {lag n : Int} {C : Array Value} {f : F} {ls : List (Nat × Nat)}
theorem Wt.sl (h : Wt w b sd lv lag C f n ls) : ∃ a c, lv = .slice a ls.length c ∧ ls.length ≤ c ∧ c ≤ maxLen ∧ (a = none → c = 0) := by
  rcases h.lst.form with ⟨e, h0, _⟩ | ⟨g, cap, e, h1, h2, _⟩
  · exact ⟨none, 0, by rw [e, h0], by omega, by simp [maxLen], fun _ => rfl⟩
  · exact ⟨_, cap, e, h1, h2, fun e => by cases e⟩
theorem Wt.c0 (h : Wt w b sd lv lag C f n ls) : w.cell? ⟨b, 0, none⟩ = some (.int .u32 (sd : Int)) := h.blk.cell 0
theorem Wt.c1 (h : Wt w b sd lv lag C f n ls) : w.cell? ⟨b, 1, none⟩ = some lv := h.blk.cell 1
theorem Wt.c2 (h : Wt w b sd lv lag C f n ls) : w.cell? ⟨b, 2, none⟩ = some (.int .i64 lag) := h.blk.cell 2
theorem Wt.c3 (h : Wt w b sd lv lag C f n ls) : w.cell? ⟨b, 3, none⟩ = some (.int .i64 (f 0)) := by
  have h0 : C[0]? = some (.int .i64 (f 0)) := by rw [h.st.eq, stA_get f (by omega)]; rfl
  exact (h.blk.cell 3).trans ((wA_mid h.st.size (j := 0) (by omega)).trans h0)
theorem Wt.c69 (h : Wt w b sd lv lag C f n ls) : w.cell? ⟨b, 69, none⟩ = some (.int .i64 n) := (h.blk.cell 69).trans (wA_end h.st.size)
theorem Wt.fr (h : Wt w b sd lv lag C f n ls) (j : Nat) : w.frozen? ⟨b, j, none⟩ = false := h.blk.frozen j
theorem Wt.mid (h : Wt w b sd lv lag C f n ls) : w.rangeAt b 3 C.toList := fun j v hv => by
  have hj : j < 66 := by have := (List.getElem?_eq_some_iff.1 hv).1; have := h.st.size; simp at *; omega
  rw [h.blk.cell (3 + j), wA_mid h.st.size hj]
  simpa using hv
theorem Wt.there (h : Wt w b sd lv lag C f n ls) : w.there b 3 66 := fun j hj => by
  have hc : j < C.toList.length := by have := h.st.size; simp; omega
  exact ⟨by rw [h.mid j _ (List.getElem?_eq_getElem hc)]; rfl, h.fr _⟩
theorem Wt.heap_eq (h : Wt w b sd lv lag C f n ls) (hW : w'.heap = w.heap) : Wt w' b sd lv lag C f n ls := ⟨h.st, h.blk.heap_eq hW, h.lst.of_heap fun g _ => by rw [hW]⟩
theorem Wt.drew (h : Wt w b sd lv lag C f n ls) : Wt w.drew b sd lv lag C f n ls := ⟨h.st, h.blk.drew, h.lst.drew⟩
theorem Wt.drewN (h : Wt w b sd lv lag C f n ls) (k : Nat) : Wt (w.drewN k) b sd lv lag C f n ls := ⟨h.st, h.blk.drewN k, h.lst.drewN k⟩
theorem Wt.alloc (h : Wt w b sd lv lag C f n ls) (o : Obj) : Wt (w.alloc o) b sd lv lag C f n ls := ⟨h.st, h.blk.alloc o, h.lst.alloc o⟩
theorem Wt.below (h : Wt w b sd lv lag C f n ls) (hb : Below w.heap.size w w') : Wt w' b sd lv lag C f n ls := ⟨h.st, h.blk.below hb h.blk.lt, h.lst.below hb h.lst.lt⟩
theorem Wt.touch {S : Nat → Prop} (h : Wt w b sd lv lag C f n ls) (hb : Touch S w w') (h1 : ¬ S b) (h2 : ∀ g, lv.ownBlock = some g → ¬ S g) : Wt w' b sd lv lag C f n ls := ⟨h.st, h.blk.touch hb h1, h.lst.of_heap fun g hg => hb.block g (h.lst.lt g hg) (h2 g hg)⟩
theorem Wt.ne (h : Wt w b sd lv lag C f n ls) : ∀ g, lv.ownBlock = some g → ¬ g = b := fun g hg e => by
  rw [e] at hg
  exact On.blk_ne h.lst h.blk (by decide) hg
theorem Wt.waits (h : Wt w b sd lv lag C f n ls) (m : Int) : Wt (w.setCell ⟨b, 69, none⟩ (.int .i64 m)) b sd lv lag C f m ls :=
  ⟨h.st, by rw [← wA_set69 (n := n) h.st.size m]; exact Blk.set_ h.blk 69 _, h.lst.far (fun e => On.blk_ne h.lst h.blk (by decide) e) _⟩
theorem Wt.stored (h : Wt w b sd lv lag C f n ls) {C' : Array Value} {f' : F} (hC : Let C' f') : Wt (w.setCells b 3 C'.toList) b sd lv lag C' f' n ls := by
  refine ⟨hC, setCells_mid C'.toList C.toList [.int .u32 (sd : Int), lv, .int .i64 lag] [.int .i64 n] w h.blk (by have := h.st.size; have := hC.size; simp; omega), ?_⟩
  refine h.lst.of_heap fun g hg => ?_
  have hT : Touch (fun k => k = b) w (w.setCells b 3 C'.toList) := touch_setCells (S := fun k => k = b) (Touch.refl _ _) _ (.inl rfl) _ _
  exact hT.block g (h.lst.lt g hg) (h.ne g hg)
end

set_option maxRecDepth 100000 in
set_option maxHeartbeats 1000000 in
theorem known_any (w : World) (b : Nat) (a : Option Addr) (l c : Nat) (h : w.cell? ⟨b, 1, none⟩ = some (.slice a l c)) :
    Calls Try.prog 18 #[.pointer (some ⟨b, 0, none⟩)] w fun e w' => e = .returned (.int .i64 (l : Int)) ∧ w = w' := by
  go_enter Try.func18, Try.ntmps18
  go_wp2
  go_ret
  exact ⟨rfl, rfl⟩
set_option maxRecDepth 100000 in
set_option maxHeartbeats 1000000 in
theorem shown_any (w : World) (b : Nat) (v : Int) (h : w.cell? ⟨b, 3, none⟩ = some (.int .i64 v)) :
    Calls Try.prog 19 #[.pointer (some ⟨b, 0, none⟩)] w fun e w' => e = .returned (.int .i64 v) ∧ w = w' := by
  go_enter Try.func19, Try.ntmps19
  go_wp2
  go_ret
  exact ⟨rfl, rfl⟩
set_option maxRecDepth 100000 in
set_option maxHeartbeats 1000000 in
theorem waits_any (w : World) (b : Nat) (v : Int) (h : w.cell? ⟨b, 69, none⟩ = some (.int .i64 v)) :
    Calls Try.prog 20 #[.pointer (some ⟨b, 0, none⟩)] w fun e w' => e = .returned (.int .i64 v) ∧ w = w' := by
  go_enter Try.func20, Try.ntmps20
  go_wp2
  go_ret
  exact ⟨rfl, rfl⟩

set_option maxRecDepth 100000 in
set_option maxHeartbeats 1000000 in
theorem wstate_any (w : World) (b sd : Nat) (lv : Value) (lag n : Int) (C : Array Value) (f : F) (ls : List (Nat × Nat)) (h : Wt w b sd lv lag C f n ls) :
    Calls Try.prog 23 #[.pointer (some ⟨b, 0, none⟩)] w fun e w' => e = .returned (.agg C) ∧ Below w.heap.size w w' := by
  obtain ⟨W1, hW1⟩ : ∃ W1, W1 = w.alloc (.cells Try.zeroCells53 53) := ⟨_, rfl⟩
  have hR : Blk W1 w.heap.size 53 Try.zeroCells53 := by rw [hW1]; exact Blk.new _ _ _
  have hB : Below w.heap.size w W1 := by rw [hW1]; exact (Below.refl _ w).alloc (Nat.le_refl _) _
  have hr : W1.rangeAt b 3 C.toList := by rw [hW1]; exact (h.alloc _).mid
  have hi : (Try.prog.info? 53).map (·.size) = some C.toList.length := by rw [h.st.info]; simp
  have hzs : Try.zeroCells53.size = C.size := by rw [h.st.size, ← stA_zero]; exact stA_size _
  have hif := h.st.info
  have hone := h.st.one
  clear h
  go_enter Try.func23, Try.ntmps23
  go_upto_region 1 with fail
  rw [← hW1]
  clear hW1
  go_wp2_with (first | (refine wpList_load_mid (by rfl) 53 _ (by rfl) b 3 (by rfl) C.toList _ hr Try.underlying53 (by rfl) hi ?_) | (refine wpList_store_blk (by rfl) 53 _ _ (by rfl) w.heap.size C (by rfl) (by rfl) _ _ hR hif hzs hone ?_; intro W6 hd6 ht6) | fail)
  refine bodyPost_ret (v := .agg C) (results_blk Try.results23 _ _ w.heap.size _ _ _ (by rfl) hd6 Try.underlying53 (by rfl) hif) rfl ⟨rfl, ?_⟩
  exact hB.trans (ht6.below hB.size (fun k hk => by omega))
end Go.Proofs.Ytckkpgopddnkiaa.Spe
namespace Go.Proofs.Ytckkpgopddnkiaa.Spe
open Go.RowKit Go.Shelf Go.Sort Go.Proofs.Ytckkpgopddnkiaa.Byt Go.Proofs.Ytckkpgopddnkiaa.Gm Go.Proofs.Ytckkpgopddnkiaa.RingE Go.Proofs.Ytckkpgopddnkiaa.Num
set_option linter.all false

def cap2 (l lag s : Nat) : Nat := if (l : Int) - lag - s > 8 then 2 else 1
def goN (l lag s i : Nat) : Nat := min i ((l : Int) - lag - s).toNat
/-- How many frames a tick shows. -/
def tkN (l lag s : Nat) : Nat := goN l lag s (cap2 l lag s)
theorem tkN_le (l lag s : Nat) (h : s ≤ l) : s + tkN l lag s ≤ l := by unfold tkN goN; omega
theorem cap2_le (l lag s : Nat) : cap2 l lag s ≤ 2 := by unfold cap2; split <;> omega

def wtN (q k : Nat) : Nat := if k = 0 then q + 1 else q
theorem wtN_le (q k : Nat) : wtN q k ≤ q + 1 := by unfold wtN; split <;> omega
theorem rt_results (tmps : Array Value) (W : World) (g : Nat) (v0 : Value) (a b c d : Int) (h : Blk W g 31 #[v0, .int .i64 a, .int .i64 b, .int .i64 c]) (h4 : tmps.getD 2 undef = .pointer (some ⟨g, 0, none⟩)) (h5 : tmps.getD 3 undef = .int .i64 d) :
    (results Try.f16 tmps).run Try.prog W = .ok (.tuple #[.agg #[v0, .int .i64 a, .int .i64 b, .int .i64 c], .int .i64 d]) W := by
  have k0 : W.cell? ⟨g, 0, none⟩ = some v0 := Blk.cell h 0
  have k1 : W.cell? ⟨g, 1, none⟩ = some (.int .i64 a) := Blk.cell h 1
  have k2 : W.cell? ⟨g, 2, none⟩ = some (.int .i64 b) := Blk.cell h 2
  have k3 : W.cell? ⟨g, 3, none⟩ = some (.int .i64 c) := Blk.cell h 3
  have e4 : tmps[2]?.getD undef = .pointer (some ⟨g, 0, none⟩) := by simpa using h4
  have e5 : tmps[3]?.getD undef = .int .i64 d := by simpa using h5
  simp [results, Try.results16, go_sem, e4, e5, k0, k1, k2, k3]

/-- What lies there while the document ticks. -/
structure RtX (w W : World) (v0 : Value) (a b c : Int) : Prop where
  box : Blk W w.heap.size 31 #[v0, .int .i64 a, .int .i64 b, .int .i64 c]
  res : Blk W (w.heap.size + 1) 31 #[.slice none 0 0, .int .i64 0, .int .i64 0, .int .i64 0]
  lo : Below w.heap.size w W
theorem RtX.set2 {w W : World} {v0 : Value} {a b c : Int} (h : RtX w W v0 a b c) (b' : Int) : RtX w (W.setCell ⟨w.heap.size, 2, none⟩ (.int .i64 b')) v0 a b' c :=
  ⟨Blk.set_ h.box 2 _, Blk.far h.res (by simp) _, h.lo.setCell (Nat.le_refl _) _⟩
theorem RtX.set3 {w W : World} {v0 : Value} {a b c : Int} (h : RtX w W v0 a b c) (c' : Int) : RtX w (W.setCell ⟨w.heap.size, 3, none⟩ (.int .i64 c')) v0 a b c' :=
  ⟨Blk.set_ h.box 3 _, Blk.far h.res (by simp) _, h.lo.setCell (Nat.le_refl _) _⟩

set_option maxRecDepth 100000 in
set_option maxHeartbeats 4000000 in
theorem rtick_any (w : World) (a : Option Addr) (l c lag s q : Nat) (hl : l ≤ 20000) (hs : s ≤ l) (hlag : lag ≤ 256) (hq : q ≤ 1000000) :
    Calls Try.prog 16 #[.agg #[.slice a l c, .int .i64 (lag : Int), .int .i64 (s : Int), .int .i64 (q : Int)]] w fun e w' =>
      e = .returned (.tuple #[.agg #[.slice a l c, .int .i64 (lag : Int), .int .i64 ((s + tkN l lag s : Nat) : Int), .int .i64 (wtN q (tkN l lag s) : Int)], .int .i64 (tkN l lag s : Int)]) ∧ Below w.heap.size w w' := by
  obtain ⟨W1, hW1⟩ : ∃ W1, W1 = (w.alloc (.cells #[.slice a l c, .int .i64 (lag : Int), .int .i64 (s : Int), .int .i64 (q : Int)] 31)).alloc (.cells #[.slice none 0 0, .int .i64 0, .int .i64 0, .int .i64 0] 31) := ⟨_, rfl⟩
  have E1 : RtX w W1 (.slice a l c) lag s q := by
    refine ⟨?_, ?_, ?_⟩
    · rw [hW1]; exact (Blk.new w _ _).alloc _
    · rw [hW1]
      have := Blk.new (w.alloc (.cells #[.slice a l c, .int .i64 (lag : Int), .int .i64 (s : Int), .int .i64 (q : Int)] 31)) 31 #[.slice none 0 0, .int .i64 0, .int .i64 0, .int .i64 0]
      simpa using this
    · rw [hW1]; exact ((Below.refl _ w).alloc (Nat.le_refl _) _).alloc (by simp) _
  obtain ⟨m, hm⟩ : ∃ m, m = cap2 l lag s := ⟨_, rfl⟩
  have hm2 : m ≤ 2 := by rw [hm]; exact cap2_le _ _ _
  have HT := Lib.hid (show tkN l lag s = goN l lag s m by rw [hm]; rfl)
  have HE := Lib.hid E1
  have c0 := E1.box.cell 0
  have c1 := E1.box.cell 1
  have c2 := E1.box.cell 2
  simp at c0 c1 c2
  have w1 : IntKind.i64.wrap ((l : Int) - lag) = (l : Int) - lag := IntWalk.i64_in _ (by omega)
  have w2 : IntKind.i64.wrap ((l : Int) - lag - s) = (l : Int) - lag - s := IntWalk.i64_in _ (by omega)
  have HM := Lib.hid hm
  clear E1
  go_enter Try.func16, Try.ntmps16
  go_upto_region 1 with fail
  rw [← hW1]
  clear hW1
  go_upto_region 2 with fail
  have hm3 := hm2
  clear hm2
  by_cases h8 : (8 : Int) < (l : Int) - lag - s
  · have hm2 : m = 2 := by rw [HM.out]; unfold cap2; rw [if_pos h8]
    rw [hm2] at HT
    go_upto_region 4 with fail
    clear c0 c1 c2 w1 w2 hm h8 HM hm2 hm3 m
    go_wp2_with fail
    go_loopw [5, 6] (fun mv iv wr => ∃ i : Nat, i ≤ 2 ∧ iv = .int .i64 (i : Int) ∧ mv = .int .i64 (goN l lag s i : Int) ∧ RtX w wr (.slice a l c) lag ((s + goN l lag s i : Nat) : Int) q) (fun _ iv _ => 2 - (intOf iv).toNat)
    case atStart => exact ⟨0, Nat.zero_le _, rfl, by simp [goN], by simpa [goN] using HE.out⟩
    case round =>
      obtain ⟨i, hi, rfl, rfl, hE⟩ := hrel
      have c0 := hE.box.cell 0
      have c1 := hE.box.cell 1
      have c2 := hE.box.cell 2
      have c3 := hE.box.cell 3
      have f2 := hE.box.frozen 2
      have f3 := hE.box.frozen 3
      simp at c0 c1 c2 c3
      have HX := Lib.hid hE
      have hgl : goN l lag s i ≤ 2 := by unfold goN; omega
      obtain ⟨k, hk⟩ : ∃ k, goN l lag s i = k := ⟨_, rfl⟩
      have HK := Lib.hid hk
      rw [hk] at c2 hgl ⊢
      by_cases hlt : i < 2
      · have i1 : (i : Int) < 2 := by omega
        have w1 : IntKind.i64.wrap ((s : Int) + k + lag) = (s : Int) + k + lag := IntWalk.i64_in _ (by omega)
        have w3 : IntKind.i64.wrap ((s : Int) + k + 1) = (s : Int) + k + 1 := IntWalk.i64_in _ (by omega)
        by_cases hs2 : (s : Int) + k + lag < (l : Int)
        · have HG := Lib.hid (show goN l lag s (i + 1) = k + 1 by have := hk; unfold goN at this ⊢; omega)
          clear hk hE
          go_wp2_with fail
          go_roundw
          case rel =>
            refine ⟨i + 1, by omega, by go_num, by rw [HG.out]; go_num, ?_⟩
            have := HX.out.set2 ((s : Int) + k + 1)
            rw [HG.out]
            simpa [Int.add_assoc] using this
          case measure => simp [intOf]; omega
        · have HG := Lib.hid (show goN l lag s (i + 1) = k by have := hk; unfold goN at this ⊢; omega)
          clear hk hE
          go_wp2_with fail
          go_roundw
          case rel =>
            refine ⟨i + 1, by omega, by go_num, by rw [HG.out], ?_⟩
            have := HX.out
            rw [HK.out] at this
            rw [HG.out]
            exact this
          case measure => simp [intOf]; omega
      · obtain rfl : i = 2 := by omega
        rw [show ((2 : Nat) : Int) = 2 from rfl]
        have HT2 := Lib.hid (show tkN l lag s = k from HT.out.trans hk)
        have HX2 := Lib.hid (show RtX w wr (.slice a l c) lag ((s + k : Nat) : Int) q by have := HX.out; rwa [hk] at this)
        
        have w1 : IntKind.i64.wrap ((q : Int) + 1) = (q : Int) + 1 := IntWalk.i64_in _ (by omega)
        clear hk hE HT HK HX hlt hi
        by_cases hk0 : k = 0
        · subst hk0
          have c4 : (wr.setCell ⟨w.heap.size, 3, none⟩ (.int .i64 ((q : Int) + 1))).heap.size = wr.heap.size := by simp
          have HX3 := HX2.out.set3 ((q : Int) + 1)
          have XB := HX3.box
          have XR := HX3.res
          have XL := HX3.lo
          clear HX3
          go_upto_region 13 with fail
          generalize wr.setCell ⟨w.heap.size, 3, none⟩ (.int .i64 ((q : Int) + 1)) = W9 at *
          have x0 := XB.cell 0
          have x1 := XB.cell 1
          have x2 := XB.cell 2
          have x3 := XB.cell 3
          simp at x0 x1 x2 x3
          have r0 := XR.cell 0
          have r1 := XR.cell 1
          have r2 := XR.cell 2
          have r3 := XR.cell 3
          simp at r0 r1 r2 r3
          have g0 := XR.frozen 0
          have g1 := XR.frozen 1
          have g2 := XR.frozen 2
          have g3 := XR.frozen 3
          have hd6 := fun a b c d => Blk.set_ (Blk.set_ (Blk.set_ (Blk.set_ XR 0 a) 1 b) 2 c) 3 d
          have HD6 := Lib.hid hd6
          clear hd6
          go_wp2_with fail
          refine bodyPost_ret (v := .tuple #[.agg #[.slice a l c, .int .i64 (lag : Int), .int .i64 ((s + 0 : Nat) : Int), .int .i64 ((q : Int) + 1)], .int .i64 0]) (rt_results _ _ (w.heap.size + 1) _ _ _ _ _ (by exact HD6.out _ _ _ _) (by rfl) (by rfl)) rfl ⟨by rw [HT2.out]; rfl, ?_⟩
          exact (((XL.setCell (by simp) _).setCell (by simp) _).setCell (by simp) _).setCell (by simp) _
        · have k0 : ¬ (k : Int) = 0 := by omega
          have k0' : ((k : Int) == 0) = false := by simp; omega
          have XB := HX2.out.box
          have XR := HX2.out.res
          have XL := HX2.out.lo
          clear c0 c1 c2 c3 f2 f3 w1
          go_upto_region 13 with fail
          have x0 := XB.cell 0
          have x1 := XB.cell 1
          have x2 := XB.cell 2
          have x3 := XB.cell 3
          simp at x0 x1 x2 x3
          have r0 := XR.cell 0
          have r1 := XR.cell 1
          have r2 := XR.cell 2
          have r3 := XR.cell 3
          simp at r0 r1 r2 r3
          have g0 := XR.frozen 0
          have g1 := XR.frozen 1
          have g2 := XR.frozen 2
          have g3 := XR.frozen 3
          have hd6 := fun a b c d => Blk.set_ (Blk.set_ (Blk.set_ (Blk.set_ XR 0 a) 1 b) 2 c) 3 d
          have HD6 := Lib.hid hd6
          clear hd6
          go_wp2_with fail
          refine bodyPost_ret (v := .tuple #[.agg #[.slice a l c, .int .i64 (lag : Int), .int .i64 ((s + k : Nat) : Int), .int .i64 (q : Int)], .int .i64 (k : Int)]) (rt_results _ _ (w.heap.size + 1) _ _ _ _ _ (by exact HD6.out _ _ _ _) (by rfl) (by rfl)) rfl ⟨by rw [HT2.out]; unfold wtN; rw [if_neg hk0], ?_⟩
          exact (((XL.setCell (by simp) _).setCell (by simp) _).setCell (by simp) _).setCell (by simp) _
  · have hm2 : m = 1 := by rw [HM.out]; unfold cap2; rw [if_neg (by omega)]
    rw [hm2] at HT
    go_upto_region 4 with fail
    clear c0 c1 c2 w1 w2 hm h8 HM hm2 hm3 m
    go_wp2_with fail
    go_loopw [5, 6] (fun mv iv wr => ∃ i : Nat, i ≤ 1 ∧ iv = .int .i64 (i : Int) ∧ mv = .int .i64 (goN l lag s i : Int) ∧ RtX w wr (.slice a l c) lag ((s + goN l lag s i : Nat) : Int) q) (fun _ iv _ => 1 - (intOf iv).toNat)
    case atStart => exact ⟨0, Nat.zero_le _, rfl, by simp [goN], by simpa [goN] using HE.out⟩
    case round =>
      obtain ⟨i, hi, rfl, rfl, hE⟩ := hrel
      have c0 := hE.box.cell 0
      have c1 := hE.box.cell 1
      have c2 := hE.box.cell 2
      have c3 := hE.box.cell 3
      have f2 := hE.box.frozen 2
      have f3 := hE.box.frozen 3
      simp at c0 c1 c2 c3
      have HX := Lib.hid hE
      have hgl : goN l lag s i ≤ 2 := by unfold goN; omega
      obtain ⟨k, hk⟩ : ∃ k, goN l lag s i = k := ⟨_, rfl⟩
      have HK := Lib.hid hk
      rw [hk] at c2 hgl ⊢
      by_cases hlt : i < 1
      · have i1 : (i : Int) < 1 := by omega
        have w1 : IntKind.i64.wrap ((s : Int) + k + lag) = (s : Int) + k + lag := IntWalk.i64_in _ (by omega)
        have w3 : IntKind.i64.wrap ((s : Int) + k + 1) = (s : Int) + k + 1 := IntWalk.i64_in _ (by omega)
        by_cases hs2 : (s : Int) + k + lag < (l : Int)
        · have HG := Lib.hid (show goN l lag s (i + 1) = k + 1 by have := hk; unfold goN at this ⊢; omega)
          clear hk hE
          go_wp2_with fail
          go_roundw
          case rel =>
            refine ⟨i + 1, by omega, by go_num, by rw [HG.out]; go_num, ?_⟩
            have := HX.out.set2 ((s : Int) + k + 1)
            rw [HG.out]
            simpa [Int.add_assoc] using this
          case measure => simp [intOf]; omega
        · have HG := Lib.hid (show goN l lag s (i + 1) = k by have := hk; unfold goN at this ⊢; omega)
          clear hk hE
          go_wp2_with fail
          go_roundw
          case rel =>
            refine ⟨i + 1, by omega, by go_num, by rw [HG.out], ?_⟩
            have := HX.out
            rw [HK.out] at this
            rw [HG.out]
            exact this
          case measure => simp [intOf]; omega
      · obtain rfl : i = 1 := by omega
        rw [show ((1 : Nat) : Int) = 1 from rfl]
        have HT2 := Lib.hid (show tkN l lag s = k from HT.out.trans hk)
        have HX2 := Lib.hid (show RtX w wr (.slice a l c) lag ((s + k : Nat) : Int) q by have := HX.out; rwa [hk] at this)
        
        have w1 : IntKind.i64.wrap ((q : Int) + 1) = (q : Int) + 1 := IntWalk.i64_in _ (by omega)
        clear hk hE HT HK HX hlt hi
        by_cases hk0 : k = 0
        · subst hk0
          have c4 : (wr.setCell ⟨w.heap.size, 3, none⟩ (.int .i64 ((q : Int) + 1))).heap.size = wr.heap.size := by simp
          have HX3 := HX2.out.set3 ((q : Int) + 1)
          have XB := HX3.box
          have XR := HX3.res
          have XL := HX3.lo
          clear HX3
          go_upto_region 13 with fail
          generalize wr.setCell ⟨w.heap.size, 3, none⟩ (.int .i64 ((q : Int) + 1)) = W9 at *
          have x0 := XB.cell 0
          have x1 := XB.cell 1
          have x2 := XB.cell 2
          have x3 := XB.cell 3
          simp at x0 x1 x2 x3
          have r0 := XR.cell 0
          have r1 := XR.cell 1
          have r2 := XR.cell 2
          have r3 := XR.cell 3
          simp at r0 r1 r2 r3
          have g0 := XR.frozen 0
          have g1 := XR.frozen 1
          have g2 := XR.frozen 2
          have g3 := XR.frozen 3
          have hd6 := fun a b c d => Blk.set_ (Blk.set_ (Blk.set_ (Blk.set_ XR 0 a) 1 b) 2 c) 3 d
          have HD6 := Lib.hid hd6
          clear hd6
          go_wp2_with fail
          refine bodyPost_ret (v := .tuple #[.agg #[.slice a l c, .int .i64 (lag : Int), .int .i64 ((s + 0 : Nat) : Int), .int .i64 ((q : Int) + 1)], .int .i64 0]) (rt_results _ _ (w.heap.size + 1) _ _ _ _ _ (by exact HD6.out _ _ _ _) (by rfl) (by rfl)) rfl ⟨by rw [HT2.out]; rfl, ?_⟩
          exact (((XL.setCell (by simp) _).setCell (by simp) _).setCell (by simp) _).setCell (by simp) _
        · have k0 : ¬ (k : Int) = 0 := by omega
          have k0' : ((k : Int) == 0) = false := by simp; omega
          have XB := HX2.out.box
          have XR := HX2.out.res
          have XL := HX2.out.lo
          clear c0 c1 c2 c3 f2 f3 w1
          go_upto_region 13 with fail
          have x0 := XB.cell 0
          have x1 := XB.cell 1
          have x2 := XB.cell 2
          have x3 := XB.cell 3
          simp at x0 x1 x2 x3
          have r0 := XR.cell 0
          have r1 := XR.cell 1
          have r2 := XR.cell 2
          have r3 := XR.cell 3
          simp at r0 r1 r2 r3
          have g0 := XR.frozen 0
          have g1 := XR.frozen 1
          have g2 := XR.frozen 2
          have g3 := XR.frozen 3
          have hd6 := fun a b c d => Blk.set_ (Blk.set_ (Blk.set_ (Blk.set_ XR 0 a) 1 b) 2 c) 3 d
          have HD6 := Lib.hid hd6
          clear hd6
          go_wp2_with fail
          refine bodyPost_ret (v := .tuple #[.agg #[.slice a l c, .int .i64 (lag : Int), .int .i64 ((s + k : Nat) : Int), .int .i64 (q : Int)], .int .i64 (k : Int)]) (rt_results _ _ (w.heap.size + 1) _ _ _ _ _ (by exact HD6.out _ _ _ _) (by rfl) (by rfl)) rfl ⟨by rw [HT2.out]; unfold wtN; rw [if_neg hk0], ?_⟩
          exact (((XL.setCell (by simp) _).setCell (by simp) _).setCell (by simp) _).setCell (by simp) _
end Go.Proofs.Ytckkpgopddnkiaa.Spe
namespace Go.Proofs.Ytckkpgopddnkiaa.Spe
open Go.RowKit Go.Shelf Go.Sort Go.Proofs.Ytckkpgopddnkiaa.Byt Go.Proofs.Ytckkpgopddnkiaa.Gm Go.Proofs.Ytckkpgopddnkiaa.RingE Go.Proofs.Ytckkpgopddnkiaa.Num
set_option linter.all false

set_option maxRecDepth 100000 in
theorem built_W (sd : Nat) (lag : Int) (f : F) : Try.prog.built 114 [(0, .agg #[.int .u32 (sd : Int), .slice none 0 0]), (1, .int .i64 lag), (2, .agg (stA f))] = some (wA sd (.slice none 0 0) lag (stA f) 0) := by
  show _ = _
  kernel_rfl
def buildW (P : Program) (u v z : Value) (w : World) : Result Next := (Sem.run P (Instr.build 114 #[(0, u), (1, v), (2, z)]) w).andThen fun u w' => .ok (.value u) w'
theorem exec_bdW (ev : Operand → Value) (dst : Option Tmp) (x y z : Operand) (ty : TypeId) (pos : String) (after : Array Edge) (guard : Option (Nat × Bool)) (w : World) :
    (execOp ev { dst := dst, op := Op.build 114 #[(0, x), (1, y), (2, z)], type := ty, pos := pos, after := after, guard := guard }).run Try.prog w = buildW Try.prog (ev x) (ev y) (ev z) w := by
  unfold execOp buildW
  simp only [Sem.run_bind, Sem.run_pure, List.map_toArray, List.map_cons, List.map_nil]
theorem buildW_at {C E : Array Value} {f : F} {sd : Nat} {lag : Int} (LC : Let C f) (hE : E = wA sd (.slice none 0 0) lag C 0) (w : World) : buildW Try.prog (.agg #[.int .u32 (sd : Int), .slice none 0 0]) (.int .i64 lag) (.agg C) w = .ok (.value (.agg E)) w := by
  unfold buildW
  rw [hE, LC.eq, run_build w _ _ _ (built_W sd lag f)]
  rfl

set_option maxRecDepth 100000 in
set_option maxHeartbeats 1000000 in
theorem wnew_out (w : World) (sd : Nat) (lag : Int) (h : lag < 0 ∨ (¬ lag < 0 ∧ 256 < lag)) :
    Calls Try.prog 14 #[.int .u32 (sd : Int), .int .i64 lag] w fun e w' => e = .returned (.tuple #[.pointer none, .int .i64 1]) ∧ w = w' := by
  rcases h with h | ⟨h, h'⟩
  · go_enter Try.func14, Try.ntmps14
    go_wp2
    go_ret2
    exact ⟨rfl, rfl⟩
  · go_enter Try.func14, Try.ntmps14
    go_wp2
    go_ret2
    exact ⟨rfl, rfl⟩

section
attribute [local go_sem ↓] exec_bdW
set_option maxRecDepth 100000 in
set_option maxHeartbeats 2000000 in
theorem wnew_any (w : World) (sd : Nat) (lag : Int) (hs : sd < 4294967296) (h0 : 0 ≤ lag) (h1 : lag ≤ 256) :
    Calls Try.prog 14 #[.int .u32 (sd : Int), .int .i64 lag] w fun e w' => ∃ g C, e = .returned (.tuple #[.pointer (some ⟨g, 0, none⟩), .int .i64 0]) ∧ Wt w' g sd (.slice none 0 0) lag C (newF (sd : Int)) 0 [] ∧ Below w.heap.size w w' ∧ w.heap.size ≤ g := by
  obtain ⟨C, LC⟩ := let_of (newF (sd : Int))
  have pN' : ∀ W, Calls Try.prog 45 #[.int .u32 (sd : Int)] W fun e w' => e = .returned (.agg C) ∧ Below W.heap.size W w' := fun W => by
    have := new_any W (sd : Int) (by omega) (by omega)
    unfold stV at this
    rw [← LC.eq] at this
    exact this
  obtain ⟨E, hE⟩ : ∃ E, E = wA sd (.slice none 0 0) lag C 0 := ⟨_, rfl⟩
  have hb := buildW_at LC hE
  have i0 : ¬ lag < 0 := by omega
  have i1 : ¬ 256 < lag := by omega
  have pN := Lib.hid pN'
  have HE := Lib.hid hE
  have HC := Lib.hid LC
  clear pN' hE LC
  go_enter Try.func14, Try.ntmps14
  go_wp2_with fail
  refine (pN.out _).mono ?_
  rintro e w2 ⟨rfl, b2⟩
  go_wp2_with fail
  go_ret2
  exact ⟨w2.heap.size, C, rfl, ⟨HC.out, by rw [← HE.out]; exact Blk.new _ _ _, On.nil _ _ _⟩, b2.alloc b2.size _, b2.size⟩
end

/-- append, shut: a rule tells its run. -/
def appW (ts : Array TypeId) (ty : TypeId) (vs : Array Value) : Sem Value := Builtin.append_ ts ty vs
theorem append_W (ts : Array TypeId) (ty : TypeId) (vs : Array Value) : Builtin.append_ ts ty vs = appW ts ty vs := rfl

section
attribute [local go_sem ↓] append_W
set_option maxRecDepth 100000 in
set_option maxHeartbeats 4000000 in
theorem wput_any (w : World) (b sd : Nat) (lv : Value) (lag n : Int) (C : Array Value) (f : F) (ls : List (Nat × Nat)) (h : Wt w b sd lv lag C f n ls) (x y : Nat) (hx : x < 65536) (hy : y < 65536) (hl : ls.length < 16384) :
    Calls Try.prog 15 #[.pointer (some ⟨b, 0, none⟩), .agg #[.int .u16 (x : Int), .int .u16 (y : Int)]] w fun e w' => e = .returned (.int .i64 0) ∧
      ∃ lv', Wt w' b sd lv' lag C f n (ls ++ [(x, y)]) ∧ Touch (fun k => k = b ∨ lv.ownBlock = some k) w w' ∧ (∀ g, lv'.ownBlock = some g → lv.ownBlock = some g ∨ w.heap.size ≤ g) := by
  obtain ⟨i0, hi, hz0, hz1, hz2⟩ := info_parts infoI2
  obtain ⟨a, c, rfl, hlc, hcm, hnn⟩ := h.sl
  obtain ⟨W1, hW1⟩ : ∃ W1, W1 = w.alloc (.cells #[.int .u16 (x : Int), .int .u16 (y : Int)] 34) := ⟨_, rfl⟩
  have hX : Blk W1 w.heap.size 34 #[.int .u16 (x : Int), .int .u16 (y : Int)] := by rw [hW1]; exact Blk.new _ _ _
  have h1 : Wt W1 b sd (.slice a ls.length c) lag C f n ls := by rw [hW1]; exact h.alloc _
  have hT : Touch (fun k => k = b ∨ Value.ownBlock (.slice a ls.length c) = some k) w W1 := by rw [hW1]; exact (Touch.refl _ _).alloc _
  have hz : W1.heap.size = w.heap.size + 1 := by rw [hW1]; simp
  obtain ⟨l, hll⟩ : ∃ l, ls.length = l := ⟨_, rfl⟩
  have hlst := h1.lst
  rw [hll] at hlst
  obtain ⟨v1, w1, hrun, hon, hg1, hv1⟩ := run_append_on (P := Try.prog) (W1.alloc (.cells #[.int .u16 (x : Int), .int .u16 (y : Int)] 34)).drew 29 29 34 i0 _ 2 4 Try.underlying29 hi hz0 hz1 hz2 rfl (by omega)
    (.slice a l c) l (lsC ls) ((hlst.alloc _).drew) (some ⟨W1.heap.size, 0, none⟩) 1 1 (inC (x, y)).toList (by rfl) (src_new W1 34 1 (inC (x, y)).toList) (by intro u hu; simp [inC] at hu; rcases hu with rfl | rfl <;> rfl) (by simp only [maxLen]; omega) (by omega)
  have hbw : Blk w1 b 114 (wA sd (.slice a l c) lag C n) := by
    have := h1.blk
    rw [hll] at this
    exact Blk.grown' hg1 ((this.alloc _).drew) (fun e => h1.ne b (by rw [hll]; exact e) rfl)
  obtain ⟨a1, c1, rfl, hlc1, hcm1⟩ := hon.slice
  rw [append_W, hz] at hrun
  have k0 := hX.cell 0
  have k1 := hX.cell 1
  have k0' := (hX.alloc (.cells #[.int .u16 (x : Int), .int .u16 (y : Int)] 34)).cell 0
  have k1' := (hX.alloc (.cells #[.int .u16 (x : Int), .int .u16 (y : Int)] 34)).cell 1
  simp only [List.getElem?_toArray, List.getElem?_cons_zero, List.getElem?_cons_succ] at k0 k1 k0' k1'
  have q1 := h1.c1
  have q1' := (h1.alloc (.cells #[.int .u16 (x : Int), .int .u16 (y : Int)] 34)).c1
  rw [hll] at q1 q1'
  have g1 := hbw.frozen 1
  have g2 := hbw.cell 1
  have g3 : (wA sd (.slice a l c) lag C n)[1]? = some (.slice a l c) := rfl
  rw [g3] at g2
  have i1 : ¬ (16384 : Int) ≤ (l : Int) := by omega
  have HFIN : Hid (∀ W, W = w1.setCell ⟨b, 1, none⟩ (.slice a1 (l + 1) c1) → ∃ lv', Wt W b sd lv' lag C f n (ls ++ [(x, y)]) ∧ Touch (fun k => k = b ∨ Value.ownBlock (.slice a ls.length c) = some k) w W ∧ (∀ g, lv'.ownBlock = some g → Value.ownBlock (.slice a ls.length c) = some g ∨ w.heap.size ≤ g)) := Lib.hid (by
    rintro W rfl
    refine ⟨.slice a1 (l + 1) c1, ⟨h1.st, ?_, ?_⟩, ?_, ?_⟩
    · rw [← wA_set1 (lv := .slice a l c)]
      exact Blk.set_ hbw 1 _
    · rw [List.length_append, List.length_singleton, lsC_snoc, hll]
      exact hon.far (fun e => On.blk_ne hon hbw (by decide) e) _
    · refine Touch.setCell ?_ (.inl (.inl rfl)) _
      refine Touch.grown ((hT.alloc _).drew) hg1 (fun k hk => .inl (.inr (by rw [hll]; exact hk)))
    · intro g hg
      rcases hv1 with e | e
      · exact .inl (by rw [hll]; rw [e] at hg; exact hg)
      · rw [e] at hg
        cases hg
        right
        show w.heap.size ≤ (W1.alloc _).heap.size
        simp; omega)
  rw [hll]
  rw [hll] at HFIN
  clear h h1 hT hX hon hg1 hv1 hbw g3 hlst
  go_enter Try.func15, Try.ntmps15
  go_upto_region 1 with fail
  rw [← hW1]
  clear hW1
  go_upto_region 3 with fail
  go_region
  all_goals
    go_wp2_with fail
    go_ret
    exact ⟨rfl, HFIN.out _ rfl⟩

set_option maxRecDepth 100000 in
set_option maxHeartbeats 4000000 in
theorem wtape_any (w : World) (b sd : Nat) (lv : Value) (lag n : Int) (C : Array Value) (f : F) (ls : List (Nat × Nat)) (h : Wt w b sd lv lag C f n ls) (hl : ls.length ≤ 16384) :
    Calls Try.prog 21 #[.pointer (some ⟨b, 0, none⟩)] w fun e w' => ∃ a' c', e = .returned (.agg #[.int .u32 (sd : Int), .slice a' ls.length c']) ∧ On w' 34 2 (.slice a' ls.length c') ls.length (lsC ls) ∧ Below w.heap.size w w' := by
  obtain ⟨i0, hi, hz0, hz1, hz2⟩ := info_parts infoI2
  obtain ⟨a, c, rfl, hlc, hcm, hnn⟩ := h.sl
  obtain ⟨W1, hW1⟩ : ∃ W1, W1 = w.alloc (.cells #[.int .u32 0, .slice none 0 0] 42) := ⟨_, rfl⟩
  have hX : Blk W1 w.heap.size 42 #[.int .u32 0, .slice none 0 0] := by rw [hW1]; exact Blk.new _ _ _
  have h1 : Wt W1 b sd (.slice a ls.length c) lag C f n ls := by rw [hW1]; exact h.alloc _
  have hB : Below w.heap.size w W1 := by rw [hW1]; exact (Below.refl _ w).alloc (Nat.le_refl _) _
  have hz : W1.heap.size = w.heap.size + 1 := by rw [hW1]; simp
  obtain ⟨l, hll⟩ : ∃ l, ls.length = l := ⟨_, rfl⟩
  have hlst := h1.lst
  rw [hll] at hlst
  obtain ⟨v1, w1, hrun, hon, hg1, hv1⟩ := run_append_on (P := Try.prog) (W1.alloc (.cells #[] 34)).drew 29 29 34 i0 _ 2 4 Try.underlying29 hi hz0 hz1 hz2 rfl (by omega)
    (.slice (some ⟨W1.heap.size, 0, none⟩) 0 0) 0 [] ((On.empty W1 _ _).drew) a l c (lsC ls) (by rw [lsC_len, hll]) ((hlst.alloc _).drew.src) (lsC_one ls) (by simp only [maxLen]; omega) (by omega)
  rw [Nat.zero_add, List.nil_append] at hon
  have hB1 : Below w.heap.size w w1 := by
    have hU : Below w.heap.size w (W1.alloc (.cells #[] 34)).drew := (hB.alloc hB.size _).drew
    refine hU.trans ⟨hg1.os, hg1.tape, hg1.output, hg1.size, fun k hk => hg1.block k (Nat.lt_of_lt_of_le hk hU.size) (fun e => ?_)⟩
    simp [Value.ownBlock] at e
    omega
  have hbw : Blk w1 w.heap.size 42 #[.int .u32 0, .slice none 0 0] := Blk.grown' hg1 ((hX.alloc _).drew) (by simp [Value.ownBlock]; omega)
  obtain ⟨a1, c1, rfl, hlc1, hcm1⟩ := hon.slice
  rw [append_W, hz] at hrun
  have q0 := h1.c0
  have q1 := h1.c1
  have q0' := (h1.alloc (.cells #[] 34)).c0
  have q1' := (h1.alloc (.cells #[] 34)).c1
  rw [hll] at q1 q1'
  have h2 : Wt w1 b sd (.slice a ls.length c) lag C f n ls := h.below hB1
  have q2 := h2.c0
  have r0 := hbw.cell 0
  have r1 := hbw.cell 1
  simp only [List.getElem?_toArray, List.getElem?_cons_zero, List.getElem?_cons_succ] at r0 r1
  have g0 := hbw.frozen 0
  have g1 := hbw.frozen 1
  have HFIN : Hid (∀ W, W = (w1.setCell ⟨w.heap.size, 0, none⟩ (.int .u32 (sd : Int))).setCell ⟨w.heap.size, 1, none⟩ (.slice a1 l c1) → Blk W w.heap.size 42 #[.int .u32 (sd : Int), .slice a1 l c1] ∧ On W 34 2 (.slice a1 ls.length c1) ls.length (lsC ls) ∧ Below w.heap.size w W) := Lib.hid (by
    rintro W rfl
    refine ⟨Blk.set_ (Blk.set_ hbw 0 _) 1 _, ?_, (hB1.setCell (Nat.le_refl _) _).setCell (Nat.le_refl _) _⟩
    rw [hll]
    have hne : ∀ e, Value.ownBlock (.slice a1 l c1) = some e → ¬ e = w.heap.size := fun e he e2 => by
      rw [e2] at he
      exact On.blk_ne hon hbw (by decide) he
    exact (hon.far (fun e => hne _ e rfl) _).far (fun e => hne _ e rfl) _)
  rw [hll]
  rw [hll] at HFIN
  clear h h1 h2 hX hon hg1 hv1 hbw hlst hB hB1
  go_enter Try.func21, Try.ntmps21
  go_upto_region 1 with fail
  rw [← hW1]
  clear hW1
  go_region
  all_goals
    go_wp2_with fail
    obtain ⟨z1, z2, z3⟩ := HFIN.out _ rfl
    refine bodyPost_ret (v := .agg #[.int .u32 (sd : Int), .slice a1 l c1]) (results_blk Try.results21 _ _ w.heap.size _ _ _ (by rfl) z1 Try.underlying42 (by rfl) (by kernel_rfl)) rfl ⟨a1, c1, rfl, z2, z3⟩
end
end Go.Proofs.Ytckkpgopddnkiaa.Spe
namespace Go.Proofs.Ytckkpgopddnkiaa.Spe
open Go.RowKit Go.Shelf Go.Sort Go.Proofs.Ytckkpgopddnkiaa.Byt Go.Proofs.Ytckkpgopddnkiaa.Gm Go.Proofs.Ytckkpgopddnkiaa.RingE Go.Proofs.Ytckkpgopddnkiaa.Num
set_option linter.all false
theorem loadW33 (w : World) (g o : Nat) : loadR Try.prog 53 (.pointer (some ⟨g, o, none⟩)) w = loadI w (loadR0 Try.prog 53 (.pointer (some ⟨g, o, none⟩)) w) (rowIn w g o 66) :=
  loadR_mid w g o _ Try.underlying53 rfl infoSt
theorem knownQ (w : World) (b : Nat) (a : Option Addr) (l c : Nat) (h : w.cell? ⟨b, 1, none⟩ = some (.slice a l c)) :
    Calls Try.prog 18 #[.pointer (some ⟨b, 0, none⟩)] w fun e w' => e = .returned (.int .i64 (l : Int)) ∧ w' = w := (known_any w b a l c h).mono fun _ _ h => ⟨h.1, h.2.symm⟩
theorem shownQ (w : World) (b : Nat) (v : Int) (h : w.cell? ⟨b, 3, none⟩ = some (.int .i64 v)) :
    Calls Try.prog 19 #[.pointer (some ⟨b, 0, none⟩)] w fun e w' => e = .returned (.int .i64 v) ∧ w' = w := (shown_any w b v h).mono fun _ _ h => ⟨h.1, h.2.symm⟩
theorem waitsQ (w : World) (b : Nat) (v : Int) (h : w.cell? ⟨b, 69, none⟩ = some (.int .i64 v)) :
    Calls Try.prog 20 #[.pointer (some ⟨b, 0, none⟩)] w fun e w' => e = .returned (.int .i64 v) ∧ w' = w := (waits_any w b v h).mono fun _ _ h => ⟨h.1, h.2.symm⟩
/-- The state behind s frames of a list. -/
def pf (sd : Nat) (ls : List (Nat × Nat)) (s : Nat) : F := playF (newF (sd : Int)) ls s
theorem pf_inv {sd : Nat} (h : sd < 4294967296) (ls : List (Nat × Nat)) (s : Nat) : Inv (s : Int) (8 * (s : Int)) (pf sd ls s) := by
  have := (Inv.new (sd : Int) (by omega) (by omega)).play ls s
  simpa [pf] using this
theorem pf_step (sd : Nat) (ls : List (Nat × Nat)) (s : Nat) : pf sd ls (s + 1) = stepF (pf sd ls s) (inA ls s) := rfl
theorem pf_app (sd : Nat) (ls ms : List (Nat × Nat)) (s : Nat) (h : s ≤ ls.length) : pf sd (ls ++ ms) s = pf sd ls s := by
  have := playF_take (newF (sd : Int)) (ls ++ ms) ls.length s h
  unfold pf
  rw [← this, List.take_left]

section
attribute [local go_sem ↓] exec33 exec_st33
attribute [local go_sem] loadW33 loadI_some rowIn_drew
set_option maxRecDepth 100000 in
set_option maxHeartbeats 8000000 in
theorem wtick_any (w : World) (b sd : Nat) (lv : Value) (lag q s : Nat) (C : Array Value) (ls : List (Nat × Nat)) (h : Wt w b sd lv lag C (pf sd ls s) q ls) (hsd : sd < 4294967296) (hib : InB ls) (hs : s ≤ ls.length) (hl : ls.length ≤ 16384) (hlag : lag ≤ 256) (hq : q ≤ 1000000) :
    Calls Try.prog 17 #[.pointer (some ⟨b, 0, none⟩)] w fun e w' => e = .returned (.int .i64 (tkN ls.length lag s : Int)) ∧
      ∃ C', Wt w' b sd lv lag C' (pf sd ls (s + tkN ls.length lag s)) (wtN q (tkN ls.length lag s) : Int) ls ∧ Touch (fun k => k = b) w w' := by
  obtain ⟨a, c, rfl, hlc, hcm, hnn⟩ := h.sl
  obtain ⟨l, hll⟩ : ∃ l, ls.length = l := ⟨_, rfl⟩
  have hframe : ∀ t, (pf sd ls t) 0 = (t : Int) := fun t => (pf_inv hsd ls t).frame
  have c1 := h.c1
  have c2 := h.c2
  have c3 := h.c3
  rw [hframe] at c3
  rw [hll] at c1 hl hs
  have pK := Lib.hid (fun j => knownQ (w.drewN j) b a l c c1)
  have pS := Lib.hid (fun j => shownQ (w.drewN j) b s c3)
  obtain ⟨m, hm⟩ : ∃ m, m = cap2 l lag s := ⟨_, rfl⟩
  have HT := Lib.hid (show tkN l lag s = goN l lag s m by rw [hm]; rfl)
  have HM := Lib.hid hm
  have HW := Lib.hid h
  have HLL := Lib.hid hll
  have HF := Lib.hid hframe
  have HIB := Lib.hid hib
  have w1 : IntKind.i64.wrap ((l : Int) - lag) = (l : Int) - lag := IntWalk.i64_in _ (by omega)
  have w2 : IntKind.i64.wrap ((l : Int) - lag - s) = (l : Int) - lag - s := IntWalk.i64_in _ (by omega)
  rw [hll]
  clear h hm hframe hib hnn
  go_enter Try.func17, Try.ntmps17
  go_wp2_with fail
  go_step3
  go_wp2_with fail
  go_quiet (first | (go_at_call 18; exact Calls.quiet_of_same (pK.out _)) | (go_at_call 19; exact Calls.quiet_of_same (pS.out _)))
  rw [hll] at HW
  clear hll
  have HW0 := Lib.hid (HW.out.drewN nq)
  have HT0 := Lib.hid (Touch.drewN (Touch.refl (fun k => k = b) w) nq)
  generalize w.drewN nq = W0 at *
  clear pK pS c1 c2 c3 HW
  by_cases h8 : (8 : Int) < (l : Int) - lag - s
  · have hm2 : m = 2 := by rw [HM.out]; unfold cap2; rw [if_pos h8]
    rw [hm2] at HT
    have H8 := Lib.hid h8
    go_wp2_with fail
    clear w1 w2 h8 HM hm2 m
    go_step3
    go_wp2_with fail
    (try rw [decide_eq_true H8.out])
    go_loopw [4, 17] (fun mv iv wr => ∃ (i : Nat) (C' : Array Value), i ≤ 2 ∧ iv = .int .i64 (i : Int) ∧ mv = .int .i64 (i : Int) ∧ (0 < i → s + i + lag ≤ l) ∧ Wt wr b sd (.slice a l c) lag C' (pf sd ls (s + i)) q ls ∧ Touch (fun k => k = b) w wr) (fun _ iv _ => 2 - (intOf iv).toNat)
    case atStart => exact ⟨0, C, by omega, rfl, rfl, fun h => absurd h (Nat.lt_irrefl _), HW0.out, HT0.out⟩
    case round =>
      clear HW0 HT0
      obtain ⟨i, C', hi, rfl, rfl, hil, hE, hT⟩ := hrel
      obtain ⟨t, ht⟩ : ∃ t, s + i = t := ⟨_, rfl⟩
      rw [ht] at hE
      have htl : t ≤ l := by omega
      by_cases hlt : i < 2
      · have i1 : (i : Int) < 2 := by omega
        have c1 := hE.c1
        have c2 := hE.c2
        have c3 := hE.c3
        rw [HF.out] at c3
        have pK := Lib.hid (fun j => knownQ (wr.drewN j) b a l c c1)
        have pS := Lib.hid (fun j => shownQ (wr.drewN j) b t c3)
        have w3 : IntKind.i64.wrap ((t : Int) + lag) = (t : Int) + lag := IntWalk.i64_in _ (by omega)
        have HE := Lib.hid hE
        have HTT := Lib.hid hT
        by_cases hs2 : (l : Int) ≤ (t : Int) + lag
        · have HT2 := Lib.hid (show tkN l lag s = i by rw [HT.out]; unfold goN; omega)
          clear hE hT
          go_wp2_with fail
          go_quiet (first | (go_at_call 18; exact Calls.quiet_of_same (pK.out _)) | (go_at_call 19; exact Calls.quiet_of_same (pS.out _)))
          have HV := Lib.hid (HE.out.drewN nq)
          have HTV := Lib.hid (HTT.out.drewN nq)
          rw [← ht] at HV
          clear HE HTT pK pS c1 c2 c3 w3 hil ht HT
          generalize wr.drewN nq = V at *
          by_cases hk0 : i = 0
          · subst hk0
            have c69 := HV.out.c69
            have f69 := HV.out.fr 69
            have w9 : IntKind.i64.wrap ((q : Int) + 1) = (q : Int) + 1 := IntWalk.i64_in _ (by omega)
            go_wp2_with fail
            (try rw [Exit.noGoto_ret])
            go_ret
            exact ⟨by rw [HT2.out]; rfl, _, by rw [HT2.out]; exact HV.out.waits _, HTV.out.setCell (.inl rfl) _⟩
          · have k0 : ¬ (i : Int) = 0 := by omega
            have HN := Lib.hid (show wtN q i = q by unfold wtN; rw [if_neg hk0])
            go_wp2_with fail
            (try rw [Exit.noGoto_ret])
            go_ret
            exact ⟨by rw [HT2.out]; rfl, _, by rw [HT2.out, HN.out]; exact HV.out, HTV.out⟩
        · have hs3 : ¬ (l : Int) ≤ (t : Int) + lag := hs2
          clear hE hT
          go_wp2_with fail
          go_quiet (first | (go_at_call 18; exact Calls.quiet_of_same (pK.out _)) | (go_at_call 19; exact Calls.quiet_of_same (pS.out _)))
          have HV := Lib.hid (HE.out.drewN nq)
          have HTV := Lib.hid (HTT.out.drewN nq)
          clear HE HTT pK pS c1 c2 c3
          generalize wr.drewN nq = V at *
          have c1 := HV.out.c1
          have c3 := HV.out.c3
          rw [HF.out] at c3
          obtain ⟨g, off, ea, hg, hc⟩ := (ls_row (n := l) (c := c) (by have := HV.out.lst; exact this) HIB.out).2 (by rw [HLL.out]; omega)
          subst ea
          obtain ⟨x, hx⟩ : ∃ x, ls[t]? = some x := ⟨_, List.getElem?_eq_getElem (by rw [HLL.out]; omega)⟩
          have r := hc t (by rw [HLL.out]; omega)
          have hxb := HIB.out _ (List.mem_of_getElem? hx)
          obtain ⟨d0, d1⟩ := I2.inA_get hx
          rw [d0, d1] at r
          obtain ⟨r0, r1⟩ := r
          obtain ⟨L, hL⟩ : ∃ L, L = C'.toList := ⟨_, rfl⟩
          have hLC : stA (pf sd ls t) = L.toArray := by rw [hL, ← HV.out.st.eq]
          obtain ⟨C2, LC2⟩ := let_of (pf sd ls (t + 1))
          have pT := Lib.hid (show ∀ W, Calls Try.prog 46 #[.agg L.toArray, .agg #[.int .u16 (x.1 : Int), .int .u16 (x.2 : Int)]] W fun e w' => e = .returned (.agg C2) ∧ Below W.heap.size W w' from fun W => by
            have := step_any W (pf sd ls t) t (8 * (t : Int)) (inA ls t) (fun j hj => by
              have e : j = 0 ∨ j = 1 := by omega
              rcases e with rfl | rfl
              · rw [d0]; exact hxb.1
              · rw [d1]; exact hxb.2) (pf_inv hsd ls t) (by omega) (by omega) (by omega)
            unfold stV inV at this
            rw [← pf_step, ← LC2.eq, hLC, d0, d1] at this
            exact this)
          have pS := Lib.hid (fun W (h : W.cell? ⟨b, 3, none⟩ = some (.int .i64 (t : Int))) => shown_any W b t h)
          have st := Lib.hid (show ∀ W, RowKit.Below V.heap.size V W → ∃ W', storeR Try.prog 53 (.pointer (some ⟨b, 3, none⟩)) (.agg C2) W = .ok .skip W' ∧ Wt W' b sd (.slice (some ⟨g, off, none⟩) l c) lag C2 (pf sd ls (t + 1)) q ls ∧ Touch (fun k => k = b) w W' from fun W hb => by
            have hEW := HV.out.below hb
            have ht2 : W.there b 3 C2.size := by rw [LC2.size]; exact hEW.there
            refine ⟨_, storeR_mid ht2 LC2.info LC2.one rfl, hEW.stored LC2, ?_⟩
            exact touch_setCells (S := fun k => k = b) (HTV.out.trans (Touch.of_below hb) (fun k hk => .inl hk)) _ (.inl rfl) _ _)
          have hrow : rowIn V.drew b 3 66 = some L := by rw [rowIn_drew, hL]; exact rowIn_of HV.out.mid (by have := HV.out.st.size; simpa using this)
          have j1 : (0 : Int) ≤ (t : Int) := by omega
          have j2 : (t : Int) < (l : Int) := by omega
          obtain ⟨x0, x1⟩ := x
          clear hc hg hx hxb d0 d1 hL hLC LC2 w3 HV HTV HF HIB
          go_upto_region 8 with fail
          go_cut [] (fun wx => Wt wx b sd (.slice (some ⟨g, off, none⟩) l c) lag C2 (pf sd ls (t + 1)) q ls ∧ Touch (fun k => k = b) w wx)
          case first =>
            go_region_law (first | (go_simp; go_at_call 19; refine (pS.out _ (by exact c3)).mono ?_; rintro e w3 ⟨rfl, rfl⟩) | (go_simp; go_at_call 46; refine (pT.out _).mono ?_; rintro e w3 ⟨rfl, h3⟩; obtain ⟨w4, hst, E4⟩ := st.out w3 ⟨h3.os, h3.tape, h3.output, h3.size, h3.block⟩))
            all_goals
              go_wp2_with fail
              go_meet
              exact E4
          case rest =>
            obtain ⟨hE5, hT5⟩ := hcut
            have HE5 := Lib.hid hE5
            have HT5 := Lib.hid hT5
            clear hE5 hT5 st pS pT hrow c1 c3 r0 r1
            go_wp2_with fail
            go_roundw
            case rel =>
              have HR : ∃ (i' : Nat) (C' : Array Value), i' ≤ 2 ∧ Value.int IntKind.i64 ((i : Int) + 1) = .int .i64 (i' : Int) ∧ Value.int IntKind.i64 ((i : Int) + 1) = .int .i64 (i' : Int) ∧ (0 < i' → s + i' + lag ≤ l) ∧ Wt wc b sd (.slice (some ⟨g, off, none⟩) l c) lag C' (pf sd ls (s + i')) q ls ∧ Touch (fun k => k = b) w wc := ⟨i + 1, C2, by omega, by go_num, by go_num, fun _ => by omega, by rw [← Nat.add_assoc, ht]; exact HE5.out, HT5.out⟩
              first
                | exact HR
                | (refine ⟨_, _, _, _, _, _, _, _, _, _, _, _, _, _, _, _, _, _, _, _, _, _, _, _, _, _, _, _, _, _, _, _, _, ?_, rfl⟩; exact HR)
            case measure => simp [intOf]; omega
      · obtain rfl : i = 2 := by omega
        rw [show ((2 : Nat) : Int) = 2 from rfl]
        have HT2 := Lib.hid (show tkN l lag s = 2 by rw [HT.out]; unfold goN; have := hil (by omega); omega)
        have HV := Lib.hid hE
        have HTV := Lib.hid hT
        rw [← ht] at HV
        clear hE hT hlt hi hil ht HT
        go_wp2_with fail
        (try rw [Exit.noGoto_ret])
        go_ret
        exact ⟨by rw [HT2.out]; rfl, _, by rw [HT2.out]; exact HV.out, HTV.out⟩
  · have hm2 : m = 1 := by rw [HM.out]; unfold cap2; rw [if_neg (by omega)]
    rw [hm2] at HT
    have H8 := Lib.hid h8
    go_wp2_with fail
    clear w1 w2 h8 HM hm2 m
    go_step3
    go_wp2_with fail
    (try rw [decide_eq_true H8.out])
    go_loopw [4, 17] (fun mv iv wr => ∃ (i : Nat) (C' : Array Value), i ≤ 1 ∧ iv = .int .i64 (i : Int) ∧ mv = .int .i64 (i : Int) ∧ (0 < i → s + i + lag ≤ l) ∧ Wt wr b sd (.slice a l c) lag C' (pf sd ls (s + i)) q ls ∧ Touch (fun k => k = b) w wr) (fun _ iv _ => 1 - (intOf iv).toNat)
    case atStart => exact ⟨0, C, by omega, rfl, rfl, fun h => absurd h (Nat.lt_irrefl _), HW0.out, HT0.out⟩
    case round =>
      clear HW0 HT0
      obtain ⟨i, C', hi, rfl, rfl, hil, hE, hT⟩ := hrel
      obtain ⟨t, ht⟩ : ∃ t, s + i = t := ⟨_, rfl⟩
      rw [ht] at hE
      have htl : t ≤ l := by omega
      by_cases hlt : i < 1
      · have i1 : (i : Int) < 1 := by omega
        have c1 := hE.c1
        have c2 := hE.c2
        have c3 := hE.c3
        rw [HF.out] at c3
        have pK := Lib.hid (fun j => knownQ (wr.drewN j) b a l c c1)
        have pS := Lib.hid (fun j => shownQ (wr.drewN j) b t c3)
        have w3 : IntKind.i64.wrap ((t : Int) + lag) = (t : Int) + lag := IntWalk.i64_in _ (by omega)
        have HE := Lib.hid hE
        have HTT := Lib.hid hT
        by_cases hs2 : (l : Int) ≤ (t : Int) + lag
        · have HT2 := Lib.hid (show tkN l lag s = i by rw [HT.out]; unfold goN; omega)
          clear hE hT
          go_wp2_with fail
          go_quiet (first | (go_at_call 18; exact Calls.quiet_of_same (pK.out _)) | (go_at_call 19; exact Calls.quiet_of_same (pS.out _)))
          have HV := Lib.hid (HE.out.drewN nq)
          have HTV := Lib.hid (HTT.out.drewN nq)
          rw [← ht] at HV
          clear HE HTT pK pS c1 c2 c3 w3 hil ht HT
          generalize wr.drewN nq = V at *
          by_cases hk0 : i = 0
          · subst hk0
            have c69 := HV.out.c69
            have f69 := HV.out.fr 69
            have w9 : IntKind.i64.wrap ((q : Int) + 1) = (q : Int) + 1 := IntWalk.i64_in _ (by omega)
            go_wp2_with fail
            (try rw [Exit.noGoto_ret])
            go_ret
            exact ⟨by rw [HT2.out]; rfl, _, by rw [HT2.out]; exact HV.out.waits _, HTV.out.setCell (.inl rfl) _⟩
          · exact absurd (by omega) hk0
        · have hs3 : ¬ (l : Int) ≤ (t : Int) + lag := hs2
          clear hE hT
          go_wp2_with fail
          go_quiet (first | (go_at_call 18; exact Calls.quiet_of_same (pK.out _)) | (go_at_call 19; exact Calls.quiet_of_same (pS.out _)))
          have HV := Lib.hid (HE.out.drewN nq)
          have HTV := Lib.hid (HTT.out.drewN nq)
          clear HE HTT pK pS c1 c2 c3
          generalize wr.drewN nq = V at *
          have c1 := HV.out.c1
          have c3 := HV.out.c3
          rw [HF.out] at c3
          obtain ⟨g, off, ea, hg, hc⟩ := (ls_row (n := l) (c := c) (by have := HV.out.lst; exact this) HIB.out).2 (by rw [HLL.out]; omega)
          subst ea
          obtain ⟨x, hx⟩ : ∃ x, ls[t]? = some x := ⟨_, List.getElem?_eq_getElem (by rw [HLL.out]; omega)⟩
          have r := hc t (by rw [HLL.out]; omega)
          have hxb := HIB.out _ (List.mem_of_getElem? hx)
          obtain ⟨d0, d1⟩ := I2.inA_get hx
          rw [d0, d1] at r
          obtain ⟨r0, r1⟩ := r
          obtain ⟨L, hL⟩ : ∃ L, L = C'.toList := ⟨_, rfl⟩
          have hLC : stA (pf sd ls t) = L.toArray := by rw [hL, ← HV.out.st.eq]
          obtain ⟨C2, LC2⟩ := let_of (pf sd ls (t + 1))
          have pT := Lib.hid (show ∀ W, Calls Try.prog 46 #[.agg L.toArray, .agg #[.int .u16 (x.1 : Int), .int .u16 (x.2 : Int)]] W fun e w' => e = .returned (.agg C2) ∧ Below W.heap.size W w' from fun W => by
            have := step_any W (pf sd ls t) t (8 * (t : Int)) (inA ls t) (fun j hj => by
              have e : j = 0 ∨ j = 1 := by omega
              rcases e with rfl | rfl
              · rw [d0]; exact hxb.1
              · rw [d1]; exact hxb.2) (pf_inv hsd ls t) (by omega) (by omega) (by omega)
            unfold stV inV at this
            rw [← pf_step, ← LC2.eq, hLC, d0, d1] at this
            exact this)
          have pS := Lib.hid (fun W (h : W.cell? ⟨b, 3, none⟩ = some (.int .i64 (t : Int))) => shown_any W b t h)
          have st := Lib.hid (show ∀ W, RowKit.Below V.heap.size V W → ∃ W', storeR Try.prog 53 (.pointer (some ⟨b, 3, none⟩)) (.agg C2) W = .ok .skip W' ∧ Wt W' b sd (.slice (some ⟨g, off, none⟩) l c) lag C2 (pf sd ls (t + 1)) q ls ∧ Touch (fun k => k = b) w W' from fun W hb => by
            have hEW := HV.out.below hb
            have ht2 : W.there b 3 C2.size := by rw [LC2.size]; exact hEW.there
            refine ⟨_, storeR_mid ht2 LC2.info LC2.one rfl, hEW.stored LC2, ?_⟩
            exact touch_setCells (S := fun k => k = b) (HTV.out.trans (Touch.of_below hb) (fun k hk => .inl hk)) _ (.inl rfl) _ _)
          have hrow : rowIn V.drew b 3 66 = some L := by rw [rowIn_drew, hL]; exact rowIn_of HV.out.mid (by have := HV.out.st.size; simpa using this)
          have j1 : (0 : Int) ≤ (t : Int) := by omega
          have j2 : (t : Int) < (l : Int) := by omega
          obtain ⟨x0, x1⟩ := x
          clear hc hg hx hxb d0 d1 hL hLC LC2 w3 HV HTV HF HIB
          go_upto_region 8 with fail
          go_cut [] (fun wx => Wt wx b sd (.slice (some ⟨g, off, none⟩) l c) lag C2 (pf sd ls (t + 1)) q ls ∧ Touch (fun k => k = b) w wx)
          case first =>
            go_region_law (first | (go_simp; go_at_call 19; refine (pS.out _ (by exact c3)).mono ?_; rintro e w3 ⟨rfl, rfl⟩) | (go_simp; go_at_call 46; refine (pT.out _).mono ?_; rintro e w3 ⟨rfl, h3⟩; obtain ⟨w4, hst, E4⟩ := st.out w3 ⟨h3.os, h3.tape, h3.output, h3.size, h3.block⟩))
            all_goals
              go_wp2_with fail
              go_meet
              exact E4
          case rest =>
            obtain ⟨hE5, hT5⟩ := hcut
            have HE5 := Lib.hid hE5
            have HT5 := Lib.hid hT5
            clear hE5 hT5 st pS pT hrow c1 c3 r0 r1
            go_wp2_with fail
            go_roundw
            case rel =>
              have HR : ∃ (i' : Nat) (C' : Array Value), i' ≤ 1 ∧ Value.int IntKind.i64 ((i : Int) + 1) = .int .i64 (i' : Int) ∧ Value.int IntKind.i64 ((i : Int) + 1) = .int .i64 (i' : Int) ∧ (0 < i' → s + i' + lag ≤ l) ∧ Wt wc b sd (.slice (some ⟨g, off, none⟩) l c) lag C' (pf sd ls (s + i')) q ls ∧ Touch (fun k => k = b) w wc := ⟨i + 1, C2, by omega, by go_num, by go_num, fun _ => by omega, by rw [← Nat.add_assoc, ht]; exact HE5.out, HT5.out⟩
              first
                | exact HR
                | (refine ⟨_, _, _, _, _, _, _, _, _, _, _, _, _, _, _, _, _, _, _, _, _, _, _, _, _, _, _, _, _, _, _, _, _, ?_, rfl⟩; exact HR)
            case measure => simp [intOf]; omega
      · obtain rfl : i = 1 := by omega
        rw [show ((1 : Nat) : Int) = 1 from rfl]
        have HT2 := Lib.hid (show tkN l lag s = 1 by rw [HT.out]; unfold goN; have := hil (by omega); omega)
        have HV := Lib.hid hE
        have HTV := Lib.hid hT
        rw [← ht] at HV
        clear hE hT hlt hi hil ht HT
        go_wp2_with fail
        (try rw [Exit.noGoto_ret])
        go_ret
        exact ⟨by rw [HT2.out]; rfl, _, by rw [HT2.out]; exact HV.out, HTV.out⟩
end
end Go.Proofs.Ytckkpgopddnkiaa.Spe
