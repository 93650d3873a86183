/-
  backstaylaw23.GameParts.
-/
import Derived.Test.YtblnfkhaicjeaaaWhole
import Derived.Test.YtblnfkhaicjeaaaFlat
import Derived.Test.YtblnfkhaicjeaaaGholds
namespace Go.Proofs.Ytblnfkhaicjeaaa.Gm
open Go.RowKit Go.Sort Go.Proofs.Ytblnfkhaicjeaaa.Num Go.Proofs.Ytblnfkhaicjeaaa.Eql
set_option linter.all false
attribute [local go_sem ↓] exec33
attribute [local go_sem] loadR_at cellsAt_drew

/-- The cells of a list of inputs. -/
def inC (ls : List (Nat × Nat)) : List Value := flat (fun x : Nat × Nat => [.int .u16 x.1, .int .u16 x.2]) ls
theorem inC_len (ls : List (Nat × Nat)) : (inC ls).length = ls.length * 2 := flat_len (cs := fun x : Nat × Nat => [.int .u16 x.1, .int .u16 x.2]) (s := 2) (fun _ => rfl) ls
theorem inC_app (a b : List (Nat × Nat)) : inC (a ++ b) = inC a ++ inC b := flat_app a b
theorem inC_one (ls : List (Nat × Nat)) : ∀ u ∈ inC ls, u.oneCell' = true := one_flat (fun x u hu => by simp at hu; rcases hu with rfl | rfl <;> rfl) ls
theorem InRow.src {w : World} {a : Option Addr} {ls : List (Nat × Nat)} (h : InRow w a ls) : Src w a ls.length (inC ls) := by
  by_cases h0 : ls.length = 0
  · have := List.eq_nil_of_length_eq_zero h0
    subst this
    exact .inl ⟨rfl, rfl⟩
  · obtain ⟨b, off, rfl, hlt, hc⟩ := h.2 (by omega)
    refine .inr ⟨_, rfl, fun j u hu => ?_⟩
    have hadd : (⟨b, off, none⟩ : Addr).add j = ⟨b, off + j, none⟩ := by unfold Addr.add; split <;> simp_all
    rw [hadd]
    have hj : j < ls.length * 2 := by
      have := (List.getElem?_eq_some_iff.1 hu).1
      rwa [inC_len] at this
    obtain ⟨k, r, hr, rfl⟩ : ∃ k r, r < 2 ∧ j = k * 2 + r := ⟨j / 2, j % 2, by omega, by omega⟩
    have hk : k < ls.length := by omega
    have hg : ls[k]? = some (ls[k]'hk) := List.getElem?_eq_getElem hk
    have e := flat_get (cs := fun x : Nat × Nat => [.int .u16 x.1, .int .u16 x.2]) (s := 2) (fun _ => rfl) ls hg hr
    unfold inC at hu
    rw [e] at hu
    have hx : inA ls k 0 = (ls[k]'hk).1 ∧ inA ls k 1 = (ls[k]'hk).2 := by
      unfold inA
      rw [List.getD_eq_getElem?_getD, hg]
      exact ⟨rfl, rfl⟩
    have c := hc k hk
    rw [hx.1, hx.2] at c
    match r, hr, hu with
    | 0, _, hu => cases hu; exact c.1
    | 1, _, hu => cases hu; rw [← Nat.add_assoc]; exact c.2
theorem InRow.srcA {w : World} {a : Option Addr} {ls : List (Nat × Nat)} (h : InRow w a ls) (o : Obj) : Src (w.alloc o) a ls.length (inC ls) := (h.below ((Below.refl _ w).alloc (Nat.le_refl _) o)).src
theorem InRow.rowA {w : World} {a : Option Addr} {ls : List (Nat × Nat)} (h : InRow w a ls) (o : Obj) : InRow (w.alloc o) a ls := h.below ((Below.refl _ w).alloc (Nat.le_refl _) o)
theorem on_in {w : World} {v : Value} {ls : List (Nat × Nat)} (h : On w 48 2 v ls.length (inC ls)) (hb : ∀ x ∈ ls, x.1 < 65536 ∧ x.2 < 65536) : ∃ a c, v = .slice a ls.length c ∧ InRow w a ls := by
  rcases h.form with ⟨rfl, hn, hx⟩ | ⟨g, cap, rfl, hnc, hcm, how, hgl, hcell, hfr⟩
  · exact ⟨none, 0, by rw [hn], hb, fun hp => by omega⟩
  · refine ⟨_, _, rfl, hb, fun hp => ⟨g, 0, rfl, hgl, fun j hj => ?_⟩⟩
    have hg : ls[j]? = some (ls[j]'hj) := List.getElem?_eq_getElem hj
    have hx : inA ls j 0 = (ls[j]'hj).1 ∧ inA ls j 1 = (ls[j]'hj).2 := by
      unfold inA
      rw [List.getD_eq_getElem?_getD, hg]
      exact ⟨rfl, rfl⟩
    have e0 := flat_get (cs := fun x : Nat × Nat => [.int .u16 x.1, .int .u16 x.2]) (s := 2) (fun _ => rfl) ls hg (i := 0) (by omega)
    have e1 := flat_get (cs := fun x : Nat × Nat => [.int .u16 x.1, .int .u16 x.2]) (s := 2) (fun _ => rfl) ls hg (i := 1) (by omega)
    rw [hx.1, hx.2]
    refine ⟨?_, ?_⟩
    · have := hcell (j * 2 + 0) _ e0
      simpa using this
    · have := hcell (j * 2 + 1) _ e1
      simpa using this
theorem inA_app1 {a b : List (Nat × Nat)} {k : Nat} (h : k < a.length) : inA (a ++ b) k = inA a k := by
  funext i; unfold inA; rw [show (a ++ b).getD k (0, 0) = a.getD k (0, 0) by rw [List.getD_eq_getElem?_getD, List.getD_eq_getElem?_getD, List.getElem?_append_left h]]
theorem inA_app2 {a b : List (Nat × Nat)} {k : Nat} : inA (a ++ b) (a.length + k) = inA b k := by
  funext i; unfold inA; rw [show (a ++ b).getD (a.length + k) (0, 0) = b.getD k (0, 0) by rw [List.getD_eq_getElem?_getD, List.getD_eq_getElem?_getD, List.getElem?_append_right (by omega), Nat.add_sub_cancel_left]]
theorem play_app1 (f : F) (a b : List (Nat × Nat)) : ∀ k, k ≤ a.length → playF f (a ++ b) k = playF f a k
  | 0, _ => rfl
  | k + 1, h => by rw [playF, playF, play_app1 f a b k (by omega), inA_app1 (by omega)]
theorem play_app2 (f : F) (a b : List (Nat × Nat)) : ∀ k, playF f (a ++ b) (a.length + k) = playF (playF f a a.length) b k
  | 0 => play_app1 f a b _ (Nat.le_refl _)
  | k + 1 => by rw [← Nat.add_assoc, playF, playF, play_app2 f a b k, inA_app2]
theorem play_app (f : F) (a b : List (Nat × Nat)) : playF f (a ++ b) (a ++ b).length = playF (playF f a a.length) b b.length := by
  rw [List.length_append]; exact play_app2 f a b b.length
theorem info48 : (Try.prog.info? 48).map (fun i => (i.zero, i.size, i.bytes)) = some (some (.agg #[.int .u16 0, .int .u16 0]), 2, 4) := by kernel_rfl

theorem wpQuiet_load_blk {P : Program} {ops : Array Oper} {C : World → Prop} {Q : Act → Prop} {a : Act} {o : Oper} {rest : List Oper} (hw : Region.wanted o (yielded ops a.tmps) = true) (ty : TypeId) (x : Operand) (ho : o.op = .load ty x)
    (g : Nat) (hx : a.eval x = .pointer (some ⟨g, 0, none⟩)) (t : TypeId) (cs : Array Value) (d : TypeDesc) (hg : ∀ w, C w → Blk w g t cs)
    (hu : P.underlying ty = some d) (hd : (match d with | .struct _ | .array _ _ => true | _ => false) = true) (hi : (P.info? ty).map (·.size) = some cs.size)
    (h : wpQuiet P ops C Q rest (a.put o.dst (.agg cs))) : wpQuiet P ops C Q (o :: rest) a := by
  unfold wpQuiet
  rw [if_pos hw]
  refine ⟨.agg cs, fun w hC => ?_, h⟩
  unfold Oper.quietAt execOp
  simp only [ho, hx, Instr.loadAt, Instr.sureAddr, Sem.run_bind, Sem.run_pure, Result.andThen_ok, run_loadVar_row w g t ty cs (0, 0) d (hg w hC) hu hd hi]
  exact ⟨rfl, rfl⟩
theorem fin_store (w : World) (g : Nat) {C : Array Value} {f : F} (hX : Blk w g 33 Try.zeroCells33) (L : Let C f) : ∃ W3, (storeCells ⟨g, 0, none⟩ C.toList).run Try.prog w = .ok () W3 ∧ SB W3 g 33 f ∧ Touch (fun k => k = g) w W3 := by
  have := run_storeCells_from (P := Try.prog) g 33 C.toList 0 _ _ hX (by rw [hz66]; simp [L.size]) (fun v hv => (Array.all_eq_true_iff_forall_mem.1 L.one) v (by simpa using hv))
  refine ⟨_, this, ?_, touch_setRow _ g _⟩
  have e : (Try.zeroCells33.toList.take 0 ++ C.toList).toArray = C := by simp
  rw [e]
  exact L.sb (hX.setRow C)
theorem blk_regrown {w : World} {g : Nat} {t : TypeId} {cs : Array Value} (h : Blk w g t cs) : ∀ w', (∃ p : Regrown, w' = grow (redrawn w p.d) p.os) → Blk w' g t cs := fun w' ⟨p, hp⟩ => by
  rw [hp]; exact h.below (below_regrown _ _ _) h.lt

set_option maxRecDepth 100000 in
set_option maxHeartbeats 8000000 in
theorem parts_law (w : World) (seed : Int) (h0 : 0 ≤ seed) (h1 : seed < 4294967296) (a b : Option Addr) (c d : Nat) (la lb : List (Nat × Nat)) (hr : InRow w a la) (hs : InRow w b lb) (hl : la.length ≤ 9223372036854775807) (hm : lb.length ≤ 9223372036854775807) :
    Calls Try.prog 5 #[.int .u32 seed, .slice a la.length c, .slice b lb.length d] w fun e w' => e = .returned (.bool true) ∧ Below w.heap.size w w' := by
  have pA := Lib.hid (awake_any w)
  by_cases hlong : la.length ≤ 200 ∧ lb.length ≤ 200
  · have i1 : ¬ (200 : Int) < (la.length : Int) := by omega
    have i2 : ¬ (200 : Int) < (lb.length : Int) := by omega
    have pN := Lib.hid (fun W => new_any W seed h0 h1)
    have HI := Inv.new seed h0 h1
    have HIa := HI.play la la.length
    have HIb := HIa.play lb lb.length
    obtain ⟨C, LC⟩ := let_of (newF seed)
    obtain ⟨D, LD⟩ := let_of (playF (newF seed) la la.length)
    obtain ⟨E, LE⟩ := let_of (playF (playF (newF seed) la la.length) lb lb.length)
    have pPa := Lib.hid (fun W (h : InRow W a la) => play_any W (newF seed) 0 0 a c la h HI (by omega) (by omega) (by omega) (by omega))
    have pPb := Lib.hid (fun W (h : InRow W b lb) => play_any W (playF (newF seed) la la.length) _ _ b d lb h HIa (by omega) (by omega) (by omega) (by omega))
    have pPc := Lib.hid (fun W a' c' (h : InRow W a' (la ++ lb)) => play_any W (newF seed) 0 0 a' c' (la ++ lb) h HI (by rw [List.length_append]; omega) (by omega) (by omega) (by omega))
    have HWf := Lib.hid (HIb.wf (by omega) (by omega) (by omega))
    have HFr := Lib.hid HIb.frame
    rw [play_app, List.length_append] at pPc
    have pSE := Lib.hid (fun W => sum_any W (playF (playF (newF seed) la la.length) lb lb.length) HWf.out)
    unfold stV at pN pPa pPb pPc pSE
    rw [← LC.eq] at pN pPa pPc
    rw [← LD.eq] at pPa pPb
    rw [← LE.eq] at pPb pPc pSE
    have hq : ∀ W, (Op.equalIn 10000 33 (.agg E) (.agg E)).run Try.prog W = .ok true W := fun W => by
      rw [LE.eq]; exact st_same W HWf.out HWf.out rfl
    have hq := Lib.hid hq
    have hcs := LC.size
    have hes := LE.size
    have HAC := Lib.hid (fun W => alloc_store W LC)
    have HAE := Lib.hid (fun W => alloc_store W LE)
    have HR := Lib.hid hr
    have HS := Lib.hid hs
    have HL := Lib.hid hlong
    have LC' := Lib.hid LC
    have LE' := Lib.hid LE
    clear LC LD LE hr hs HI HIa HIb hlong
    generalize playF (playF (newF seed) la la.length) lb lb.length = F9 at *
    generalize playF (newF seed) la la.length = F8 at *
    generalize sumL (stB F9) = sm at *
    generalize newF seed = F0 at *
    go_enter Try.func5, Try.ntmps5
    go_wp2_with fail
    refine pA.out.mono ?_
    rintro e w1 ⟨rfl, hb1⟩
    go_wp2_with fail
    refine (pN.out _).mono ?_
    rintro e w2 ⟨rfl, hb2⟩
    obtain ⟨W3, hrun, hS3, hB3, hz3⟩ := HAC.out w2
    have hz66' := hz66
    go_upto_region 6 with fail
    clear hrun hz66'
    have hz1 := hb1.size
    have hz2 := hb2.size
    have hBB := (hb1.trans (hb2.mono hz1)).trans (hB3.mono (by omega))
    have hX3 := LC'.out.blk hS3
    have hifC := LC'.out.info
    go_wp2_with (refine wpList_load_blk (by rfl) 33 _ (by rfl) w2.heap.size (by rfl) _ C _ hX3 Try.underlying33 (by rfl) hifC ?_)
    refine (pPa.out _ (HR.out.below hBB)).mono ?_
    rintro e w4 ⟨rfl, hb4⟩
    have hBB4 := hBB.trans (hb4.mono hBB.size)
    go_wp2_with fail
    refine (pPb.out _ (HS.out.below hBB4)).mono ?_
    rintro e w5 ⟨rfl, hb5⟩
    have hBB5 := hBB4.trans (hb5.mono hBB4.size)
    obtain ⟨W6, hrun, hS6, hB6, hz6⟩ := HAE.out w5
    have hz66' := hz66
    go_upto_region 7 with fail
    clear hrun hz66'
    have hBB6 := hBB5.trans (hB6.mono hBB5.size)
    have hbX : Below W3.heap.size W3 W6 := (hb4.trans (hb5.mono hb4.size)).trans (hB6.mono (Nat.le_trans hb4.size hb5.size))
    have hX6 := hX3.below hbX hX3.lt
    have hg2 := hX3.lt
    have hz66'' : w2.heap.size < W6.heap.size := hX6.lt
    have hRa6 := Lib.hid (HR.out.below hBB6)
    have hRb6 := Lib.hid (HS.out.below hBB6)
    have hbnd := HR.out.1
    have hbnd2 := HS.out.1
    have HBD := Lib.hid (show ∀ x ∈ la ++ lb, x.1 < 65536 ∧ x.2 < 65536 from fun x hx => (List.mem_append.1 hx).elim (hbnd x) (hbnd2 x))
    have hown0 := On.empty W6 48 2
    have hown1 : On ((W6.alloc (.cells Try.zeroCells33 33)).alloc (.cells #[] 48)) 48 2 (.slice (some ⟨W6.heap.size + 1, 0, none⟩) 0 0) 0 [] := by
      have := On.empty (W6.alloc (.cells Try.zeroCells33 33)) 48 2
      simpa using this
    have hzA : Blk ((W6.alloc (.cells Try.zeroCells33 33)).alloc (.cells #[] 48)) W6.heap.size 33 Try.zeroCells33 := (Blk.new W6 _ _).alloc _
    have hzB : Blk ((W6.alloc (.cells #[] 48)).alloc (.cells Try.zeroCells33 33)) (W6.heap.size + 1) 33 Try.zeroCells33 := by
      have := Blk.new (W6.alloc (.cells #[] 48)) 33 Try.zeroCells33
      simpa using this
    have be : Below W6.heap.size W6 (W6.alloc (.cells #[] 48)) := (Below.refl _ W6).alloc (Nat.le_refl _) _
    have bez : Below W6.heap.size W6 ((W6.alloc (.cells #[] 48)).alloc (.cells Try.zeroCells33 33)) := be.alloc be.size _
    have bze : Below W6.heap.size W6 ((W6.alloc (.cells Try.zeroCells33 33)).alloc (.cells #[] 48)) := ((Below.refl _ W6).alloc (Nat.le_refl _) _).alloc (by simp) _
    have srcA := Lib.hid (hRa6.out.below be).src
    have srcA1 := Lib.hid (hRa6.out.below bez).src
    have srcA2 := Lib.hid (hRa6.out.below bze).src
    obtain ⟨i0, hi0, hzo, hzi, hzb⟩ := info_parts info48
    have hLL := HL.out
    have q1 : 0 + la.length ≤ maxLen := by simp only [maxLen]; omega
    have q2 : (0 + la.length) * 4 ≤ 140737488355328 := by omega
    have q3 : la.length + lb.length ≤ maxLen := by simp only [maxLen]; omega
    have q4 : (la.length + lb.length) * 4 ≤ 140737488355328 := by omega
    have c6 : cellsAt W6.drew w2.heap.size = C := cellsAt_blk hX6
    have hS6' := Lib.hid hS6
    have HBB6 := Lib.hid hBB6
    have HX6 := Lib.hid hX6
    have hw5 : w5.heap.size < W6.heap.size := hS6.lt
    have hw25 : w2.heap.size ≤ w5.heap.size := by have := hb4.size; have := hb5.size; omega
    clear hb4 hb5 hB6 hX3 hS3 hb1 hb2 hB3 hBB hBB4 hBB5 hifC hbnd hbnd2 pA pN pPa pPb HAC hz1 hz2 hz3 hbX hS6 hBB6 hX6 hg2
    go_region_held3 (fun w' => cellsAt w' w2.heap.size = C) (first | exact c6 | exact cellsAt_blk X10 | exact cellsAt_blk X9 | exact cellsAt_blk (Blk.alloc X9 _) | exact cellsAt_blk X8 | exact cellsAt_blk (Blk.alloc X8 _) | exact cellsAt_blk X7 | exact cellsAt_blk (Blk.alloc X7 _) | exact cellsAt_blk (Blk.alloc HX6.out _) | exact cellsAt_blk (Blk.alloc (Blk.alloc HX6.out _) _))
      (first
        | (go_at_call 18; refine (pPc.out _ a8 c8 (by first | exact hrow8 | exact hrow8.rowA _)).mono ?_; rintro e w9 ⟨rfl, b9⟩; have b9' : Below W6.heap.size W6 w9 := (by first | exact b8.trans (b9.mono b8.size) | exact (b8.alloc b8.size (.cells Try.zeroCells33 33)).trans (b9.mono (by simp; have := b8.size; omega))); have X9 : Blk w9 w2.heap.size 33 C := HX6.out.below b9' hz66''; (first | (have ZN9 := (Blk.new w8 33 Try.zeroCells33).below b9 (by simp); obtain ⟨W10, hrun10, S10, T10⟩ := fin_store w9 w8.heap.size (C := E) ZN9 LE'.out; have b10 : Below W6.heap.size W6 W10 := b9'.trans (T10.below b9'.size (fun k hk => by have := b8.size; omega))) | (have ZN9 := ZA8.below b9 ZA8.lt; obtain ⟨W10, hrun10, S10, T10⟩ := fin_store w9 _ (C := E) ZN9 LE'.out; have b10 : Below W6.heap.size W6 W10 := b9'.trans (T10.below b9'.size (fun k hk => by have := b7.size; omega))) | (obtain ⟨W10, hrun10, S10, hB10, hz10⟩ := HAE.out w9; have b10 : Below W6.heap.size W6 W10 := b9'.trans (hB10.mono b9'.size))); have X10 : Blk W10 w2.heap.size 33 C := HX6.out.below b10 hz66''; have hz66' := hz66)
        | (refine step_append_on _ (by rfl) (.tmp 28) (.tmp 29) _ (by rfl) 48 i0 _ 2 4 Try.underlying23 hi0 hzo hzi hzb rfl (by omega) (.slice (some ⟨W6.heap.size, 0, none⟩) 0 0) 0 [] (by rfl) (by first | exact hown0 | exact hown0.alloc _) a la.length c (inC la) (by rfl) (inC_len la) (by first | exact srcA.out | exact srcA1.out | exact srcA2.out) (inC_one la) q1 q2 ?_; intro v7 w7 hown7 hg7 hat7; have hn7 : ∀ g, v7.ownBlock = some g → W6.heap.size ≤ g := (fun g hg => by rcases hat7 with e | e <;> (rw [e] at hg; simp [Value.ownBlock] at hg; omega)); have b7 : Below W6.heap.size W6 w7 := (by first | exact be.drew.trans ((Touch.grown (S := fun k => W6.heap.size ≤ k) (w' := w7) (Touch.refl _ _) ⟨hg7.os, hg7.tape, hg7.output, hg7.size, hg7.block⟩ (fun k hk => .inl (by simp [Value.ownBlock] at hk; show W6.heap.size ≤ k; omega))).below be.size (fun k hk => hk)) | exact bez.drew.trans ((Touch.grown (S := fun k => W6.heap.size ≤ k) (w' := w7) (Touch.refl _ _) ⟨hg7.os, hg7.tape, hg7.output, hg7.size, hg7.block⟩ (fun k hk => .inl (by simp [Value.ownBlock] at hk; show W6.heap.size ≤ k; omega))).below bez.size (fun k hk => hk)) | exact bze.drew.trans ((Touch.grown (S := fun k => W6.heap.size ≤ k) (w' := w7) (Touch.refl _ _) ⟨hg7.os, hg7.tape, hg7.output, hg7.size, hg7.block⟩ (fun k hk => .inl (by simp [Value.ownBlock] at hk; show W6.heap.size ≤ k; omega))).below bze.size (fun k hk => hk))); have X7 : Blk w7 w2.heap.size 33 C := HX6.out.below b7 hz66''; (try (have ZA7 : Blk w7 (W6.heap.size + 1) 33 Try.zeroCells33 := Blk.grown' hg7 (by first | exact hzB | fail) (by simp [Value.ownBlock]))); rw [Nat.zero_add, List.nil_append] at hown7; obtain ⟨a7, c7, rfl, hlc7, hcm7⟩ := hown7.slice; have srcB := (hRb6.out.below b7).src)
        | (refine step_append_on _ (by rfl) (.tmp 28) (.tmp 29) _ (by rfl) 48 i0 _ 2 4 Try.underlying23 hi0 hzo hzi hzb rfl (by omega) (.slice (some ⟨W6.heap.size + 1, 0, none⟩) 0 0) 0 [] (by rfl) (by first | exact hown1 | fail) a la.length c (inC la) (by rfl) (inC_len la) (by first | exact srcA.out | exact srcA1.out | exact srcA2.out) (inC_one la) q1 q2 ?_; intro v7 w7 hown7 hg7 hat7; have hn7 : ∀ g, v7.ownBlock = some g → W6.heap.size ≤ g := (fun g hg => by rcases hat7 with e | e <;> (rw [e] at hg; simp [Value.ownBlock] at hg; omega)); have b7 : Below W6.heap.size W6 w7 := (by first | exact be.drew.trans ((Touch.grown (S := fun k => W6.heap.size ≤ k) (w' := w7) (Touch.refl _ _) ⟨hg7.os, hg7.tape, hg7.output, hg7.size, hg7.block⟩ (fun k hk => .inl (by simp [Value.ownBlock] at hk; show W6.heap.size ≤ k; omega))).below be.size (fun k hk => hk)) | exact bez.drew.trans ((Touch.grown (S := fun k => W6.heap.size ≤ k) (w' := w7) (Touch.refl _ _) ⟨hg7.os, hg7.tape, hg7.output, hg7.size, hg7.block⟩ (fun k hk => .inl (by simp [Value.ownBlock] at hk; show W6.heap.size ≤ k; omega))).below bez.size (fun k hk => hk)) | exact bze.drew.trans ((Touch.grown (S := fun k => W6.heap.size ≤ k) (w' := w7) (Touch.refl _ _) ⟨hg7.os, hg7.tape, hg7.output, hg7.size, hg7.block⟩ (fun k hk => .inl (by simp [Value.ownBlock] at hk; show W6.heap.size ≤ k; omega))).below bze.size (fun k hk => hk))); have X7 : Blk w7 w2.heap.size 33 C := HX6.out.below b7 hz66''; have ZA7 : Blk w7 W6.heap.size 33 Try.zeroCells33 := Blk.grown' hg7 (by first | exact hzA | fail) (by simp [Value.ownBlock]); rw [Nat.zero_add, List.nil_append] at hown7; obtain ⟨a7, c7, rfl, hlc7, hcm7⟩ := hown7.slice; have srcB := (hRb6.out.below b7).src)
        | (refine step_append_on _ (by rfl) (.tmp 30) (.tmp 31) _ (by rfl) 48 i0 _ 2 4 Try.underlying23 hi0 hzo hzi hzb rfl (by omega) (.slice a7 la.length c7) la.length (inC la) (by rfl) (by first | exact hown7 | exact hown7.alloc _) b lb.length d (inC lb) (by rfl) (inC_len lb) (by first | exact srcB | exact InRow.srcA (hRb6.out.below b7) _) (inC_one lb) q3 q4 ?_; intro v8 w8 hown8 hg8 hat8; have b8 : Below W6.heap.size W6 w8 := b7.trans (by first | exact (Touch.grown (S := fun k => W6.heap.size ≤ k) (w' := w8) (Touch.refl _ w7) ⟨hg8.os, hg8.tape, hg8.output, hg8.size, hg8.block⟩ (fun k hk => .inl (hn7 k hk))).below b7.size (fun k hk => hk) | exact (Touch.grown (S := fun k => W6.heap.size ≤ k) (w' := w8) ((Touch.refl _ w7).alloc (.cells Try.zeroCells33 33)) ⟨hg8.os, hg8.tape, hg8.output, hg8.size, hg8.block⟩ (fun k hk => .inl (hn7 k hk))).below b7.size (fun k hk => hk)); have X8 : Blk w8 w2.heap.size 33 C := HX6.out.below b8 hz66''; (try (first | have ZA8 : Blk w8 w7.heap.size 33 Try.zeroCells33 := Blk.grown' hg8 (by first | exact Blk.new w7 _ _ | fail) (fun e => by have := hown7.lt _ e; omega) | have ZA8 : Blk w8 (W6.heap.size + 1) 33 Try.zeroCells33 := Blk.grown' hg8 (by first | exact ZA7 | fail) (hown7.blk_ne ZA7 (by decide)) | have ZA8 : Blk w8 W6.heap.size 33 Try.zeroCells33 := Blk.grown' hg8 (by first | exact ZA7 | fail) (hown7.blk_ne ZA7 (by decide)))); rw [← List.length_append, ← inC_app] at hown8; obtain ⟨a8, c8, rfl, hrow8⟩ := on_in hown8 HBD.out)
        | fail "no arm")
    all_goals
      clear c6 hrun10 hz66'
      have XX := Lib.hid (LE'.out.blk (hS6'.out.below b10 hw5))
      have HB10 := Lib.hid (HBB6.out.trans (b10.mono HBB6.out.size))
      obtain ⟨gy, YY, hgy⟩ : ∃ gy, Blk W10 gy 33 E ∧ gy = _ := ⟨_, LE'.out.blk S10, rfl⟩
      have YY := Lib.hid YY
      have hk := Lib.hid (fun W (h : Blk W w5.heap.size 33 E) => show W.cell? ⟨w5.heap.size, 0, none⟩ = some (.int .i64 ((la.length : Int) + lb.length)) by
        have := (LE'.out.sb h).int (j := 0) (by omega) (by omega) (by omega)
        rw [HFr.out, Int.zero_add] at this
        exact this)
      have c0 : cellsAt W10.drew w5.heap.size = E ∧ cellsAt W10.drew gy = E ∧ W10.drew.cell? ⟨w5.heap.size, 0, none⟩ = some (.int .i64 ((la.length : Int) + lb.length)) := ⟨cellsAt_blk XX.out, cellsAt_blk YY.out, hk.out _ XX.out⟩
      have hg := guard33
      have hqo := hq.out
      go_upto_region 8 with fail
      rw [← hgy]
      clear hgy
      go_region_held3 (fun w' => cellsAt w' w5.heap.size = E ∧ cellsAt w' gy = E ∧ w'.cell? ⟨w5.heap.size, 0, none⟩ = some (.int .i64 ((la.length : Int) + lb.length))) (first | exact c0 | exact ⟨cellsAt_blk P1, cellsAt_blk P2, hk.out _ P1⟩)
        (first
          | (go_at_call 24; refine (pSE.out _).mono ?_; rintro e wS ⟨rfl, bS⟩; have PB : Below w.heap.size w wS := (by first | exact PB.trans (bS.mono PB.size) | exact HB10.out.drew.trans (bS.mono HB10.out.size)); have P1 : Blk wS w5.heap.size 33 E := (by first | exact P1.below bS P1.lt | exact (Blk.drew XX.out).below bS XX.out.lt); have P2 : Blk wS gy 33 E := (by first | exact P2.below bS P2.lt | exact (Blk.drew YY.out).below bS YY.out.lt))
          | fail "no arm")
    all_goals
      go_wp2_with fail
      go_ret
      have hwr : IntKind.i64.wrap ((la.length : Int) + lb.length) = (la.length : Int) + lb.length := by unfold IntKind.wrap; simp [IntKind.signed, IntKind.bits]; omega
      first
        | exact ⟨rfl, PB⟩
        | exact ⟨ret_bool (by simp [hwr]), PB⟩
  · by_cases i1 : (200 : Int) < (la.length : Int)
    · go_enter Try.func5, Try.ntmps5
      go_wp2_with fail
      refine pA.out.mono ?_
      rintro e w1 ⟨rfl, hb1⟩
      go_wp2_with fail
      go_ret
      exact ⟨rfl, hb1⟩
    · have i2 : (200 : Int) < (lb.length : Int) := by omega
      go_enter Try.func5, Try.ntmps5
      go_wp2_with fail
      refine pA.out.mono ?_
      rintro e w1 ⟨rfl, hb1⟩
      go_wp2_with fail
      go_ret
      exact ⟨rfl, hb1⟩
end Go.Proofs.Ytblnfkhaicjeaaa.Gm
