/- Part 5 of the walks of the golf union's program: TailP, A7, A8, A9, A10, A11, A12. -/
import Derived.Test.YtcofdandmihilaaDoorB02
import Derived.Test.YtcofdandmihilaaDoorB04
set_option linter.unusedVariables false
set_option linter.unusedSimpArgs false
set_option linter.unusedSectionVars false
set_option linter.constructorNameAsVariable false
/- A drawn region: first m operations that have one value in whatever world; then operations that have one value in every world of a class (calls among them); then a forced tail. -/
namespace Go.Mem
open Go Go.RowKit
variable {P : Program} {ops : Array Oper} {md : Region.Mode} {C : World → Prop}
section
variable {m n i : Nat} {oi : Oper} {v : Value} {L : Array Bool → Act → Prop}
theorem headAnyM_first (hi : ops[i]? = some oi) (hsel : ∀ (j : Nat) (o : Oper) cs b, ops[j]? = some o → o.op ≠ .select cs b) (hs : sinkFrom md ops m n = true) (hc : Region.chainB md ops n = true)
    (hn : n < ops.size) (hin : i < n) (hend : ∀ ls a, L ls a → ∀ j ∈ Region.ready md ops ls, n ≤ j) (k : Nat) :
    ∀ (ls : Array Bool) (a : Act), HeadInv md ops n ls → (∀ i < m, ls.getD i true = true) →
      (∀ j oj, ops[j]? = some oj → j ≠ i → ls.getD j true = false → (∀ e ∈ oj.after, Region.binds md e = true → e.on ≠ i) → oi.apart ops oj = true) →
      i ∈ Region.ready md ops ls → YieldsIn P ops C oi v a → headAny P md ops C n L k (ls.setIfInBounds i true) (a.put oi.dst v) → headAny P md ops C n L (k + 1) ls a := by
  have inHead : ∀ (ls : Array Bool), HeadInv md ops n ls → (∀ i < m, ls.getD i true = true) → i ∈ Region.ready md ops ls → ∀ j ∈ Region.ready md ops ls, j < n := by
    intro ls inv hm hr j hj
    rcases Nat.lt_or_ge j n with h | h
    · exact h
    · have hun := (mem_ready.1 hr).1
      have hmi : m ≤ i := by
        rcases Nat.lt_or_ge i m with h' | h'
        · rw [hm i h'] at hun; cases hun
        · exact h'
      exact absurd hj (tail_waits' hs hc hn inv _ i rfl hmi hin hun j h)
  induction k with
  | zero =>
    intro ls a inv hm _ hr hy H
    refine ⟨fun h => (by rw [h] at hr; cases hr), fun j hj => ⟨inHead ls inv hm hr j hj, ?_⟩⟩
    by_cases e : j = i
    · subst e; exact hy.qOp hi H
    · have h1 := hend _ _ H j (ready_mono hj e)
      have h2 := inHead ls inv hm hr j hj
      omega
  | succ k ih =>
    intro ls a inv hm hfree hr hy H
    refine ⟨fun h => (by rw [h] at hr; cases hr), fun j hj => ⟨inHead ls inv hm hr j hj, ?_⟩⟩
    by_cases e : j = i
    · subst e; exact hy.qOp hi H
    · obtain ⟨hju, oj, hoj, hall⟩ := mem_ready.1 hj
      have hnot : ∀ d ∈ oj.after, Region.binds md d = true → d.on ≠ i := fun d hd hb hq => by
        have h1 := hall d hd hb
        rw [hq, getD_both (mem_ready.1 hr).1] at h1
        cases h1
      have h1 := qOp_put hoj (hfree j oj hoj e hju hnot) (fun cs b => hsel i oi cs b hi) (fun cs b => hsel j oj cs b hoj) hy (H.2 j (ready_mono hj e)).2
      refine qOp_mono (fun a' h2 => ?_) h1
      refine ih (ls.setIfInBounds j true) a' (inv.set hj (inHead ls inv hm hr j hj)) (fun x hx => setAll_true [j] ls x (hm x hx)) (fun m om hm hmi hmu hno => ?_) (ready_mono hr (Ne.symm e)) h2.1 ?_
      · refine hfree m om hm hmi ?_ hno
        by_cases hjm : j = m
        · subst hjm; exact hju
        · rw [getD_set_ne true hjm] at hmu; exact hmu
      · rw [Array.setIfInBounds_comm _ _ e]
        exact h2.2
end
theorem headAnyM_lex {m n g : Nat} {R : Act → Prop} (hsel : Region.noSelect ops = true) (hs : sinkFrom md ops m n = true) (hc : Region.chainB md ops n = true) (hn : n < ops.size) (l : List Oper) :
    ∀ (k : Nat) (ls : Array Bool) (a : Act), (∀ j, j < l.length → l[j]? = ops[k + j]?) → k + l.length = n → HeadInv md ops n ls → (∀ i < m, ls.getD i true = true) → Region.lexHead md ops g l.length k ls = true → wpQuiet P ops C R l a →
      headAny P md ops C n (fun ls' a' => Region.seqB md ops g n ls' = true ∧ R a') l.length ls a := by
  induction l with
  | nil =>
    intro k ls a _ hk _ _ hB h
    obtain rfl : k = n := by simpa using hk
    exact ⟨by simpa [Region.lexHead] using hB, h⟩
  | cons o l ih =>
    intro k ls a hl hk inv hm hB h
    have h0 : ops[k]? = some o := by simpa using (hl 0 (by simp)).symm
    simp only [List.length_cons] at hk
    simp only [List.length_cons, Region.lexHead, Bool.and_eq_true] at hB
    have hkn : k < n := by omega
    have hr : k ∈ Region.ready md ops ls := by simpa using hB.1.1
    have hq : qOp P ops C k (wpQuiet P ops C R l) a := by unfold qOp; simp only [h0]; exact h
    obtain ⟨v, hy, hK⟩ := yieldsIn_of_qOp h0 hq
    refine headAnyM_first h0 (Region.noSelect_spec hsel) hs hc hn hkn (fun ls' a' hL => seqB_ready hL.1) l.length ls a inv hm (Region.free_spec h0 hB.1.2) hr hy ?_
    refine ih (k + 1) _ _ (fun j hj => ?_) (by omega) (inv.set hr hkn) (fun x hx => setAll_true [k] ls x (hm x hx)) hB.2 hK
    have := hl (j + 1) (by simp only [List.length_cons]; omega)
    simpa [Nat.add_assoc, Nat.add_comm 1 j] using this
/-- what the numbers of a region must be -/
def preTailB (ops : Array Oper) (m n : Nat) : Bool :=
  let l0 := Array.replicate ops.size false
  let l1 := setAll (List.range m) l0
  Region.noSelect ops && decide (n < ops.size) && decide (m ≤ n) && sinkFrom .any ops m n && Region.chainB .any ops n && lexIs .any ops (List.range m) l0 && Region.lexHead .any ops (ops.size - n) (n - m) m l1
/-- the law -/
theorem wp_pre_tail {id : Nat} {Q : Exit → Act → World → Prop} {a : Act} {w : World} {l : List Oper} (m n : Nat) (K : World → Prop) (hm : P.follows .mixedOrders = true) (hB : preTailB l.toArray m n = true) (hC : K w.drew)
    (h : Nonempty (Wd K) → wpQuiet P l.toArray (fun _ => True) (fun a1 => wpQuiet P l.toArray (fun w' => ∃ x : Wd K, w' = x.w) (fun a' => ∀ x : Wd K, wpList P l.toArray (NoPanic Q) (l.drop n) a' x.w) ((l.drop m).take (n - m)) a1) (l.take m) a) : (Code.region id l.toArray true).wp P Q a w := by
  simp only [preTailB, Bool.and_eq_true, decide_eq_true_eq] at hB
  obtain ⟨⟨⟨⟨⟨⟨hsel, hn⟩, hmn⟩, hs⟩, hc⟩, hpre⟩, hlex⟩ := hB
  have hQ : ∀ c a a' w, NoPanic Q (.panic c) a' w → NoPanic Q (.panic c) a w := fun _ _ _ _ h => (h : False).elim
  have inv0 : HeadInv .any l.toArray n (Array.replicate l.toArray.size false) :=
    ⟨by simp, fun j oj _ hl => (by rw [getD_replicate_false] at hl; cases hl), fun t _ ht => getD_in (by simpa using ht) (getD_replicate_false _ _)⟩
  have inv1 := HeadInv.setAll (List.range m) _ inv0 hpre fun i hi => by have := List.mem_range.1 hi; omega
  refine wp_region_noPanic (wp_region_any hm ?_)
  have hn' : n < l.length := by simpa using hn
  have hdl : (l.drop n).length = l.toArray.size - n := by simp
  have hml : ((l.drop m).take (n - m)).length = n - m := by simp; omega
  have hpk : pick l.toArray (List.range m) = l.take m := by
    refine List.ext_getElem? fun i => ?_
    have key : ∀ k, k ≤ l.length → pick l.toArray (List.range k) = l.take k := by
      intro k
      induction k with
      | zero => intro _; rfl
      | succ k ih =>
        intro hk
        rw [List.range_succ, pick, List.filterMap_append]
        have := ih (by omega)
        rw [pick] at this
        rw [this, List.take_succ_eq_append_getElem (by omega)]
        simp [show k < l.length by omega]
    rw [key m (by omega)]
  have e : (fun w' => ∃ x : Wd K, w' = x.w) = K := by
    funext w'
    exact propext ⟨fun ⟨y, hy⟩ => hy ▸ y.h, fun h => ⟨⟨w', h⟩, rfl⟩⟩
  have h1 := h ⟨⟨_, hC⟩⟩
  rw [e] at h1
  have hsz : l.toArray.size = (List.range m).length + (((l.drop m).take (n - m)).length + (l.toArray.size - n)) := by rw [List.length_range, hml]; omega
  have hfu : wpAny P .any l.toArray (NoPanic Q) ((List.range m).length + (((l.drop m).take (n - m)).length + (l.toArray.size - n))) (Array.replicate l.toArray.size false) a w.drew := by
    refine wpAny_pre hsel hQ (List.range m) _ _ hpre ?_
    rw [hpk]
    refine wpQuiet_mono' (fun a1 h3 => ?_) h1
    have H := headAnyM_lex (md := .any) (g := l.toArray.size - n) hsel hs hc hn ((l.drop m).take (n - m)) m _ a1 (fun j hj => by
      rw [hml] at hj
      rw [List.getElem?_take_of_lt hj, List.getElem?_drop]
      simp) (by rw [hml]; omega) inv1 (fun i hi => setAll_mem _ _ i (List.mem_range.2 hi)) (by rw [hml]; exact hlex) h3
    refine headAny_sound (fun ls a' w' hw' hL => ?_) _ _ _ _ hC H
    have := wpAny_of_seq (P := P) (md := .any) (Q' := NoPanic Q) (l.drop n) n ls a' w' (fun j => by simp [List.getElem?_drop]) (by rw [hdl]; exact hL.1) (hL.2 ⟨w', hw'⟩)
    rwa [hdl] at this
  rw [← hsz] at hfu
  exact hfu
end Go.Mem
/- TopAdjusted: the program's checks of a card and of a player, where they are without an error. -/
namespace Go.Proofs.YtcofdandmihilaaDoor
open Go.RowKit Go.Mem Go.Sheet Go.Adj
/-- holes and a card without an error, and without holes that are not played -/
structure CEnv (w : World) (v ve : Value) (n : Nat) (hs : List HI) (es : List EI) (name : ByteArray) : Prop where
  rh : Rd w (· < w.heap.size) 2 v n (hs.flatMap HI.cells)
  re : Rd w (· < w.heap.size) 2 ve n (es.flatMap EI.cells)
  gh : GoodH hs
  nm : nameB name = true
  sz : name.size ≤ 9223372036854775807
  ge : ∀ i, i < n → PlayE (eAt es i)
theorem CEnv.later {w w' : World} {v ve : Value} {n : Nat} {hs : List HI} {es : List EI} {name : ByteArray} (h : CEnv w v ve n hs es name) (hb : Below w.heap.size w w') : CEnv w' v ve n hs es name :=
  ⟨h.rh.later hb, h.re.later hb, h.gh, h.nm, h.sz, h.ge⟩
theorem CEnv.len {w : World} {v ve : Value} {n : Nat} {hs : List HI} {es : List EI} {name : ByteArray} (h : CEnv w v ve n hs es name) : n = hs.length := h.rh.count (f := HI.cells) (size := 2) (fun _ => rfl) (by decide)
set_option maxRecDepth 100000 in
set_option maxHeartbeats 4000000 in
theorem checkCard_ok (W : World) (v ve : Value) (n : Nat) (hs : List HI) (es : List EI) (name : ByteArray) (h : CEnv W v ve n hs es name) :
    Calls Tryd.prog 16 #[v, .agg #[.string name, ve]] W fun e w' => e = .returned (.int .i64 0) ∧ Below W.heap.size W w' := by
  have HE := Lib.hid h
  have hn := h.rh.le
  obtain ⟨A, c, rfl, _, _, _⟩ := h.rh.open_
  obtain ⟨Ae, ce, rfl, _, _, _⟩ := h.re.open_
  clear h
  have hb := (Below.refl W.heap.size W).alloc (Nat.le_refl _) (.cells #[.string name, .slice Ae n ce] 25)
  have HB := Lib.hid hb
  have c0 : (W.alloc (.cells #[.string name, .slice Ae n ce] 25)).cell? ⟨W.heap.size, 0, none⟩ = some (.string name) := by simp
  have c1 : (W.alloc (.cells #[.string name, .slice Ae n ce] 25)).cell? ⟨W.heap.size, 1, none⟩ = some (.slice Ae n ce) := by simp
  have HE1 := Lib.hid (HE.out.later hb)
  clear hb HE
  go_enter Tryd.func16, Tryd.ntmps16
  go_wp2_with fail
  generalize W.alloc (.cells #[.string name, .slice Ae n ce] 25) = W1 at *
  generalize W.heap.size = gc at c0 c1 ⊢
  have tnn : ((n : Int) != (n : Int)) = false := by simp
  have hlt := World.block_lt_of_cell? _ _ c0
  refine wp_cls 17 (fun w' => Below W1.heap.size W1 w') (by kernel_rfl) (by kernel_rfl) (Below.refl _ _).drew ?_
  simp only [List.take_succ_cons, List.take_zero, List.drop_succ_cons, List.drop_zero]
  generalize hK : (fun w' => Below W1.heap.size W1 w') = K
  intro hne
  have kb : ∀ y : Wd K, Below W1.heap.size W1 y.w := by subst hK; exact fun y => y.h
  have hK3 : ∀ w w', K w → Below w.heap.size w w' → K w' := by subst hK; exact fun w w' h h' => h.trans (h'.mono h.size)
  have y0 : ∀ y : Wd K, y.w.cell? ⟨gc, 0, none⟩ = some (.string name) := fun y => ((kb y).cell (p := ⟨gc, 0, none⟩) hlt).trans c0
  have y1 : ∀ y : Wd K, y.w.cell? ⟨gc, 1, none⟩ = some (.slice Ae n ce) := fun y => ((kb y).cell (p := ⟨gc, 1, none⟩) hlt).trans c1
  have H1 : Hid (∀ y : Wd K, Calls Tryd.prog 27 #[.slice A n c] y.w fun e w' => e = .returned (.int .i64 0) ∧ Below y.w.heap.size y.w w') := fun y => checkHoles_ok y.w _ n hs (HE1.out.later (kb y)).rh HE1.out.gh
  have H2 : Hid (∀ y : Wd K, Calls Tryd.prog 34 #[.string name] y.w fun e w' => e = .returned (.bool true) ∧ Below y.w.heap.size y.w w') := fun y => by
    have := cardIsName_any name y.w HE1.out.sz
    rw [HE1.out.nm] at this
    exact this
  have H3 : Hid (∀ y : Wd K, Calls Tryd.prog 35 #[.slice Ae n ce] y.w fun e w' => e = .returned (.int .i64 0) ∧ Below y.w.heap.size y.w w') := fun y => checkEntries_ok y.w _ n es (HE1.out.later (kb y)).re HE1.out.ge
  have KB := Lib.hid kb
  clear hK c0 c1 kb
  iterate 1 (go_big_quiet_step ((fail)))
  go_big_quiet_step ((go_at_call 27; exact cls_below hK3 (H1.out _)))
  iterate 2 (go_big_quiet_step ((fail)))
  go_big_quiet_step ((go_at_call 34; exact cls_below hK3 (H2.out _)))
  iterate 1 (go_big_quiet_step ((fail)))
  go_big_quiet_step ((go_at_call 33; exact cls_same (cardNo _ _)))
  iterate 6 (go_big_quiet_step ((fail)))
  go_big_quiet_step ((go_at_call 33; exact cls_same (cardNo _ _)))
  iterate 2 (go_big_quiet_step ((fail)))
  go_big_quiet_step ((go_at_call 35; exact cls_below hK3 (H3.out _)))
  refine wpQuiet_nil ?_
  intro y
  have HY := Lib.hid (HB.out.trans ((KB.out y).mono HB.out.size))
  clear y0 y1 H1 H2 H3 hK3 hne KB tnn
  generalize y.w = wy at *
  have hba := HY.out.alloc HY.out.size (.cells #[.int .i64 0, .int .i64 0, .int .i64 0, .int .i64 0] 35)
  have HBA := Lib.hid hba
  clear hba
  go_wp2_with (go_at_call 32; refine (cardOk4 _ _ (by simp) (by simp) (by simp) (by simp) (by simp)).mono ?_; rintro e w' ⟨rfl, rfl⟩)
  go_ret
  exact ⟨rfl, HBA.out⟩
set_option maxRecDepth 100000 in
set_option maxHeartbeats 4000000 in
theorem checkPlayer_ok (W : World) (v ve : Value) (n : Nat) (hs : List HI) (es : List EI) (name : ByteArray) (co : Int) (hco : -99 ≤ co ∧ co ≤ 99) (h : CEnv W v ve n hs es name) :
    Calls Tryd.prog 38 #[v, .agg #[.string name, ve, .int .i64 co]] W fun e w' => e = .returned (.int .i64 0) ∧ Below W.heap.size W w' := by
  have HE := Lib.hid h
  have hn := h.rh.le
  obtain ⟨A, c, rfl, _, _, _⟩ := h.rh.open_
  obtain ⟨Ae, ce, rfl, _, _, _⟩ := h.re.open_
  clear h
  have hb := (Below.refl W.heap.size W).alloc (Nat.le_refl _) (.cells #[.string name, .slice Ae n ce, .int .i64 co] 34)
  have c0 : (W.alloc (.cells #[.string name, .slice Ae n ce, .int .i64 co] 34)).cell? ⟨W.heap.size, 0, none⟩ = some (.string name) := by simp
  have c1 : (W.alloc (.cells #[.string name, .slice Ae n ce, .int .i64 co] 34)).cell? ⟨W.heap.size, 1, none⟩ = some (.slice Ae n ce) := by simp
  have c2 : (W.alloc (.cells #[.string name, .slice Ae n ce, .int .i64 co] 34)).cell? ⟨W.heap.size, 2, none⟩ = some (.int .i64 co) := by simp
  have HE1 := Lib.hid (HE.out.later hb)
  have HB := Lib.hid hb
  clear hb HE
  go_enter Tryd.func38, Tryd.ntmps38
  go_wp2_with fail
  generalize W.alloc (.cells #[.string name, .slice Ae n ce, .int .i64 co] 34) = W0 at *
  generalize W.heap.size = gc at c0 c1 c2 ⊢
  have hlt := World.block_lt_of_cell? _ _ c0
  go_at_call 27
  refine (checkHoles_ok W0 _ n hs HE1.out.rh HE1.out.gh).mono ?_
  rintro e W1 ⟨rfl, hb1⟩
  have d0 := (hb1.cell (p := ⟨gc, 0, none⟩) hlt).trans c0
  have d1 := (hb1.cell (p := ⟨gc, 1, none⟩) hlt).trans c1
  have d2 := (hb1.cell (p := ⟨gc, 2, none⟩) hlt).trans c2
  have HE2 := Lib.hid (HE1.out.later hb1)
  have HB1 := Lib.hid (HB.out.trans (hb1.mono HB.out.size))
  clear c0 c1 c2 hb1 HE1 HB hlt
  have hlt := World.block_lt_of_cell? _ _ d0
  go_wp2_with fail
  refine wp_cls 8 (fun w' => Below W1.heap.size W1 w') (by kernel_rfl) (by kernel_rfl) (Below.refl _ _).drew ?_
  simp only [List.take_succ_cons, List.take_zero, List.drop_succ_cons, List.drop_zero]
  generalize hK : (fun w' => Below W1.heap.size W1 w') = K
  intro hne
  have kb : ∀ y : Wd K, Below W1.heap.size W1 y.w := by subst hK; exact fun y => y.h
  have hK3 : ∀ w w', K w → Below w.heap.size w w' → K w' := by subst hK; exact fun w w' h h' => h.trans (h'.mono h.size)
  have y0 : ∀ y : Wd K, y.w.cell? ⟨gc, 0, none⟩ = some (.string name) := fun y => ((kb y).cell (p := ⟨gc, 0, none⟩) hlt).trans d0
  have y1 : ∀ y : Wd K, y.w.cell? ⟨gc, 1, none⟩ = some (.slice Ae n ce) := fun y => ((kb y).cell (p := ⟨gc, 1, none⟩) hlt).trans d1
  have y2 : ∀ y : Wd K, y.w.cell? ⟨gc, 2, none⟩ = some (.int .i64 co) := fun y => ((kb y).cell (p := ⟨gc, 2, none⟩) hlt).trans d2
  have H1 : Hid (∀ y : Wd K, Calls Tryd.prog 16 #[.slice A n c, .agg #[.string name, .slice Ae n ce]] y.w fun e w' => e = .returned (.int .i64 0) ∧ Below y.w.heap.size y.w w') := fun y => checkCard_ok y.w _ _ n hs es name (HE2.out.later (kb y))
  have KB := Lib.hid kb
  clear hK d0 d1 d2 kb
  iterate 3 (go_big_quiet_step ((fail)))
  go_big_quiet_step ((go_at_call 16; exact cls_below hK3 (H1.out _)))
  iterate 2 (go_big_quiet_step ((fail)))
  go_big_quiet_step ((go_at_call 29; exact cls_same (outside_no _ _ hco)))
  go_big_quiet_step ((go_at_call 28; exact cls_same (formatNo _ _)))
  refine wpQuiet_nil ?_
  intro y
  have HY := Lib.hid (HB1.out.trans ((KB.out y).mono HB1.out.size))
  clear y0 y1 y2 H1 hK3 hne KB
  generalize y.w = wy at *
  have HBA := Lib.hid (HY.out.alloc HY.out.size (.cells #[.int .i64 0, .int .i64 0] 35))
  go_wp2_with (go_at_call 26; refine (formatOk2 _ _ (by simp) (by simp) (by simp)).mono ?_; rintro e w' ⟨rfl, rfl⟩)
  go_ret
  exact ⟨rfl, HBA.out⟩
end Go.Proofs.YtcofdandmihilaaDoor
/- TopAdjusted: the strokes given, the limits of holes. -/
namespace Go.Proofs.YtcofdandmihilaaDoor
open Go.RowKit Go.Mem Go.Sheet Go.Adj
theorem rd_one {w : World} {u : Value} {t : TypeId} {g : Nat} (hg : w.heap.size = g) : Rd (w.alloc (.cells #[u] t)) (fun _ => True) 1 (.slice (some ⟨g, 0, none⟩) 1 1) 1 [u] :=
  hg ▸ rd_new (m := 1) w #[u] t rfl (by omega) (fun _ => True) trivial
theorem rd_two {w : World} {a b : Value} {t : TypeId} {g : Nat} (hg : w.heap.size = g) : Rd (w.alloc (.cells #[a, b] t)) (fun _ => True) 2 (.slice (some ⟨g, 0, none⟩) 1 1) 1 [a, b] :=
  hg ▸ rd_new (m := 1) w #[a, b] t rfl (by omega) (fun _ => True) trivial
theorem one_int (k : IntKind) (x : Int) : ∀ u ∈ [Value.int k x], u.oneCell' = true := by simp [Value.oneCell']
theorem one_net (k : IntKind) (x : Int) (m : ByteArray) : ∀ u ∈ [Value.int k x, Value.string m], u.oneCell' = true := by simp [Value.oneCell']
theorem rd_cellI {w : World} {S : Nat → Prop} {b o m c n k : Nat} {l : List Int} {x : Int} (h : Rd w S 1 (.slice (some ⟨b, o, none⟩) m c) n (intsI l)) (hx : l[k]? = some x) : w.cell? ⟨b, o + k, none⟩ = some (.int .i64 x) := by
  have hk : k < n := by
    have h1 := h.count1
    have h2 := (List.getElem?_eq_some_iff.1 hx).1
    omega
  obtain ⟨b', o', x', hA, hx', hc⟩ := Rd.int h hk
  cases hA
  cases Option.some.inj (hx'.symm.trans hx)
  exact hc
/-- the first k of what a function says -/
def gl (f : Nat → Int) (k : Nat) : List Int := (List.range k).map f
theorem gl_snoc (f : Nat → Int) (k : Nat) : gl f (k + 1) = gl f k ++ [f k] := by unfold gl; rw [List.range_succ, List.map_append]; rfl
theorem gl_at (f : Nat → Int) {n k : Nat} (h : k < n) : (gl f n)[k]? = some (f k) := by unfold gl; rw [List.getElem?_map, List.getElem?_range h]; rfl
theorem gl_len (f : Nat → Int) (k : Nat) : (gl f k).length = k := by simp [gl]
set_option maxRecDepth 100000 in
set_option maxHeartbeats 4000000 in
theorem given_any (W : World) (v : Value) (n : Nat) (hs : List HI) (co : Int) (hco : -99 ≤ co ∧ co ≤ 99) (h : Rd W (· < W.heap.size) 2 v n (hs.flatMap HI.cells)) (hg : GoodH hs) :
    Calls Tryd.prog 30 #[v, .int .i64 co] W fun e w' => ∃ v', e = .returned v' ∧ St W w' [row 3 1 v' n (intsI (gl (givF hs co) n))] := by
  have hl : n = hs.length := h.count (f := HI.cells) (size := 2) (fun _ => rfl) (by decide)
  have hn := hg.len
  rw [← hl] at hn
  have hq := q_bd hg.len hco
  have hr := rest_bd hg.len.1 co
  have hre : restF hs co = co - qF hs co * hs.length := rfl
  have hqe : qF hs co = floorF co n := by unfold qF; rw [hl]
  rw [← hl] at hr hre
  have HGV : Hid (∀ k, givF hs co k = if (hAt hs k).idx ≤ restF hs co then qF hs co + 1 else qF hs co) := fun _ => rfl
  have HID : Hid (∀ k, k < n → 1 ≤ (hAt hs k).idx ∧ (hAt hs k).idx ≤ n) := fun k hk => by
    have := hg.idx k (by omega)
    rwa [← hl] at this
  have HFL : Hid (∀ w, Calls Tryd.prog 41 #[.int .i64 co, .int .i64 n] w fun r w' => r = .returned (.int .i64 (qF hs co)) ∧ w = w') := fun w => by rw [hqe]; exact floor_any co n w (by omega) (by omega)
  generalize qF hs co = q at *
  generalize restF hs co = r at *
  generalize givF hs co = G at *
  have hqn : q * (n : Int) = co - r := by omega
  have H := Lib.hid h
  obtain ⟨A, c, rfl, _, _, _⟩ := h.open_
  clear h hg hl hre hqe
  have S0 := (St.refl W).row_nil 3 1
  have hsub : co - (co - r) = r := by omega
  go_enter Tryd.func30, Tryd.ntmps30
  go_wp2_with (go_at_call 41; refine (HFL.out _).mono ?_; rintro e w' ⟨rfl, rfl⟩)
  clear hsub hqn
  go_loopw [23, 7] (fun i v w' => ∃ k : Nat, k ≤ n ∧ i = .int .i64 k ∧ St W w' [row 3 1 v k (intsI (gl G k))]) (fun i _ _ => n - (intOf i).toNat)
  case atStart => exact ⟨0, Nat.zero_le _, rfl, S0⟩
  case round =>
    obtain ⟨k, hk, rfl, S⟩ := hrel
    clear S0
    by_cases hlt : k < n
    · obtain ⟨b, o, x, rfl, hx, c0, c1⟩ := (H.out.below S.bel).elem2 (k := k) (fun s : HI => .int .i64 s.par) (fun s : HI => .int .i64 s.idx) (fun _ => rfl) hlt
      have hxi := HID.out k hlt
      have hgk := HGV.out k
      rw [hAt_eq hx] at hxi hgk
      obtain ⟨par, idx⟩ := x
      simp only at c0 c1 hxi hgk
      clear hx
      by_cases hle : idx ≤ r
      · rw [if_pos hle] at hgk
        have HGK := Lib.hid hgk
        clear hgk
        go_wp2_with (at_builtin; refine wpList_append_st eltI rfl _ _ rfl rfl ((S.alloc _).alloc _) (k := 0) rfl rfl (rd_one (by simp)) (one_int _ _) (by omega) (by omega) ?_; intro v' w' S' _)
        go_roundw
        case rel => exact ⟨k + 1, by omega, by go_num, by rw [gl_snoc, HGK.out]; simpa [intsI] using S'⟩
        case measure => simp [intOf]; omega
      · rw [if_neg hle] at hgk
        have HGK := Lib.hid hgk
        clear hgk
        go_wp2_with (at_builtin; refine wpList_append_st eltI rfl _ _ rfl rfl ((S.alloc _).alloc _) (k := 0) rfl rfl (rd_one (by simp)) (one_int _ _) (by omega) (by omega) ?_; intro v' w' S' _)
        go_roundw
        case rel => exact ⟨k + 1, by omega, by go_num, by rw [gl_snoc, HGK.out]; simpa [intsI] using S'⟩
        case measure => simp [intOf]; omega
    · have HS := Lib.hid S
      clear S
      obtain rfl : k = n := by omega
      go_wp2
      go_ret
      exact ⟨_, rfl, HS.out⟩
set_option maxRecDepth 100000 in
set_option maxHeartbeats 4000000 in
theorem givenE_ok (W : World) (v : Value) (n : Nat) (hs : List HI) (co : Int) (hco : -99 ≤ co ∧ co ≤ 99) (h : Rd W (· < W.heap.size) 2 v n (hs.flatMap HI.cells)) (hg : GoodH hs) :
    Calls Tryd.prog 11 #[v, .int .i64 co] W fun e w' => ∃ v', e = .returned (.tuple #[v', .int .i64 0]) ∧ St W w' [row 3 1 v' n (intsI (gl (givF hs co) n))] := by
  have H := Lib.hid h
  obtain ⟨A, c, rfl, _, _, _⟩ := h.open_
  clear h
  go_enter Tryd.func11, Tryd.ntmps11
  go_wp2_with fail
  go_at_call 27
  refine (checkHoles_ok W _ n hs H.out hg).mono ?_
  rintro e w1 ⟨rfl, hb1⟩
  have HB := Lib.hid (hb1.alloc hb1.size (.cells #[.int .i64 0, .int .i64 0] 35))
  clear hb1
  go_wp2_with (first
    | (go_at_call 29; refine (outside_no _ _ hco).mono ?_; rintro e w' ⟨rfl, rfl⟩)
    | (go_at_call 28; refine (formatNo _ _).mono ?_; rintro e w' ⟨rfl, rfl⟩)
    | (go_at_call 26; refine (formatOk2 _ _ (by simp) (by simp) (by simp)).mono ?_; rintro e w' ⟨rfl, rfl⟩)
    | (go_at_call 30; refine (given_any _ _ n hs co hco (H.out.later HB.out) hg).mono ?_; rintro e w' ⟨v', rfl, S⟩; have HS := Lib.hid S; clear S))
  go_ret2
  exact ⟨_, rfl, (St.of_below HB.out).call HS.out⟩
end Go.Proofs.YtcofdandmihilaaDoor
/- TopAdjusted: the limits of holes, the adjusted strokes. -/
namespace Go.Proofs.YtcofdandmihilaaDoor
open Go.RowKit Go.Mem Go.Sheet Go.Adj
/-- a row that is known to have elements -/
theorem row_some {W w : World} {L : List Asr} {i : Nat} {e : TypeId} {n : Nat} {v : Value} {xs : List Value} (h : St W w L) (hi : L[i]? = some (row e 1 v n xs)) (hn : 1 ≤ n) : ∃ b c, v = .slice (some ⟨b, 0, none⟩) n c := by
  obtain ⟨g', cap', hv', _, _, _, _, _⟩ := h.row_form hi (by omega)
  exact ⟨_, _, hv'⟩
set_option maxRecDepth 100000 in
set_option maxHeartbeats 4000000 in
theorem limits_ok (W : World) (v : Value) (n : Nat) (hs : List HI) (co : Int) (hco : -99 ≤ co ∧ co ≤ 99) (h : Rd W (· < W.heap.size) 2 v n (hs.flatMap HI.cells)) (hg : GoodH hs) :
    Calls Tryd.prog 17 #[v, .int .i64 co] W fun e w' => ∃ v', e = .returned (.tuple #[v', .int .i64 0]) ∧ St W w' [row 3 1 v' n (intsI (gl (limF hs co) n))] := by
  have hl : n = hs.length := h.count (f := HI.cells) (size := 2) (fun _ => rfl) (by decide)
  have hn := hg.len
  rw [← hl] at hn
  have HPAR : Hid (∀ k, k < n → 3 ≤ (hAt hs k).par ∧ (hAt hs k).par ≤ 6) := fun k hk => hg.par k (by omega)
  have HGB : Hid (∀ k, -100 ≤ givF hs co k ∧ givF hs co k ≤ 100) := fun k => giv_bd hg.len hco k
  have HLM : Hid (∀ k, limF hs co k = (hAt hs k).par + 2 + givF hs co k) := fun _ => rfl
  have HG := Lib.hid hg
  have H := Lib.hid h
  obtain ⟨A, c, rfl, _, _, _⟩ := h.open_
  clear h hg hl
  go_enter Tryd.func17, Tryd.ntmps17
  go_wp2_with fail
  go_at_call 27
  refine (checkHoles_ok W _ n hs H.out HG.out).mono ?_
  rintro e w1 ⟨rfl, hb1⟩
  have HB := Lib.hid (hb1.alloc hb1.size (.cells #[.int .i64 0, .int .i64 0] 35))
  clear hb1
  go_wp2_with (first
    | (go_at_call 37; refine (checkHandicap_ok _ _ hco).mono ?_; rintro e w' ⟨rfl, rfl⟩)
    | (go_at_call 36; refine (handicapOk2 _ _ (by simp) (by simp) (by simp)).mono ?_; rintro e w' ⟨rfl, rfl⟩)
    | (go_at_call 11; refine (givenE_ok _ _ n hs co hco (H.out.later HB.out) HG.out).mono ?_; rintro e w2 ⟨vg, rfl, S⟩; have S2 := (St.of_below HB.out).call S; obtain ⟨bg, cg, rfl⟩ := row_some S2 (i := 0) rfl (by omega); have HS := Lib.hid S2; clear S S2))
  have S0 := HS.out.row_nil 3 1
  simp only [List.cons_append, List.nil_append] at S0
  clear HS HB
  generalize givF hs co = G at *
  generalize hLM : limF hs co = LM at *
  have HLE := Lib.hid hLM
  clear hLM
  go_loopw [32, 9] (fun i v w' => ∃ k : Nat, k ≤ n ∧ i = .int .i64 k ∧ St W w' [row 3 1 (.slice (some ⟨bg, 0, none⟩) n cg) n (intsI (gl G n)), row 3 1 v k (intsI (gl LM k))]) (fun i _ _ => n - (intOf i).toNat)
  case atStart => exact ⟨0, Nat.zero_le _, rfl, S0⟩
  case round =>
    obtain ⟨k, hk, rfl, S⟩ := hrel
    clear S0
    by_cases hlt : k < n
    · obtain ⟨b, o, x, rfl, hx, c0, c1⟩ := (H.out.below S.bel).elem2 (k := k) (fun s : HI => .int .i64 s.par) (fun s : HI => .int .i64 s.idx) (fun _ => rfl) hlt
      have hxp := HPAR.out k hlt
      have hgb := HGB.out k
      have hlm := HLM.out k
      rw [hAt_eq hx] at hxp hlm
      obtain ⟨par, idx⟩ := x
      simp only at c0 c1 hxp hlm
      have HGA := Lib.hid (gl_at G hlt)
      generalize G k = gk at *
      have HL2 := Lib.hid hlm
      have HS := Lib.hid S
      clear hx hlm S
      go_wp2_with fail
      clear c0 c1
      have SA := (HS.out.blk_new #[.int .i64 par, .int .i64 idx] 32).drew
      simp only [List.cons_append, List.nil_append] at SA
      generalize wr.heap.size = gx at *
      generalize hwd : (wr.alloc (.cells #[.int .i64 par, .int .i64 idx] 32)).drew = wd at SA
      have hwd' : (wr.alloc (.cells #[.int .i64 par, .int .i64 idx] 32)).drew = wd := hwd
      clear hwd
      refine wp_head_tail' 0 10 1 [] [0, 1, 2, 3, 4, 5, 6, 7, 8] rfl (fun w' => ∃ L, St W w' ([row 3 1 (.slice (some ⟨bg, 0, none⟩) n cg) n (intsI (gl G n)), row 3 1 u9 k (intsI (gl LM k)), blk gx 32 #[.int .i64 par, .int .i64 idx]] ++ L)) (by kernel_rfl) (by kernel_rfl) (by rw [hwd']; exact ⟨[], SA⟩) ?_
      simp only [pick, List.filterMap_cons, List.filterMap_nil, List.getElem?_toArray, List.getElem?_cons_succ, List.getElem?_cons_zero]
      generalize hK : (fun w' => ∃ L, St W w' ([row 3 1 (.slice (some ⟨bg, 0, none⟩) n cg) n (intsI (gl G n)), row 3 1 u9 k (intsI (gl LM k)), blk gx 32 #[.int .i64 par, .int .i64 idx]] ++ L)) = K
      have kS : ∀ y : Wd K, ∃ L, St W y.w ([row 3 1 (.slice (some ⟨bg, 0, none⟩) n cg) n (intsI (gl G n)), row 3 1 u9 k (intsI (gl LM k)), blk gx 32 #[.int .i64 par, .int .i64 idx]] ++ L) := by subst hK; exact fun y => y.h
      have hK2 : ∀ w' L, St W w' ([row 3 1 (.slice (some ⟨bg, 0, none⟩) n cg) n (intsI (gl G n)), row 3 1 u9 k (intsI (gl LM k)), blk gx 32 #[.int .i64 par, .int .i64 idx]] ++ L) → K w' := by subst hK; exact fun _ _ h => ⟨_, h⟩
      have hne : Nonempty (Wd K) := ⟨⟨wd, hK2 _ [] SA⟩⟩
      have k0 : ∀ y : Wd K, y.w.cell? ⟨gx, 0, none⟩ = some (.int .i64 par) := fun y => by
        obtain ⟨L, h⟩ := kS y
        exact h.blk_cell (i := 2) rfl 0
      have k1 : ∀ y : Wd K, y.w.cell? ⟨bg, k, none⟩ = some (.int .i64 gk) := fun y => by
        obtain ⟨L, h⟩ := kS y
        have := rd_cellI (h.row_rd (i := 0) rfl) HGA.out
        rwa [Nat.zero_add] at this
      rw [hwd']
      clear hK kS hwd' HS
      refine wpQuiet_nil ?_
      change wpQuiet _ _ _ _ (_ :: _ :: _ :: _ :: _ :: _ :: _ :: _ :: _ :: []) _
      repeat (go_big_quiet_step ((fail)))
      refine wpQuiet_nil ?_
      clear k0 k1 hne
      refine headW_all (rs := [9]) (by kernel_rfl) (by simp) (by kernel_rfl) ?_
      intro i hi
      obtain rfl := List.mem_singleton.1 hi
      refine wpOp_list rfl ?_
      intro Q' hQ'
      go_wp2_with fail
      have SB := SA.alloc (.cells #[.int .i64 (par + 2 + gk)] 3)
      refine ⟨hK2 _ [] SB, by kernel_rfl, ?_⟩
      clear hK2
      refine wpList_append_st eltI rfl _ _ rfl rfl SB (k := 1) rfl rfl (rd_one (by simp)) (one_int _ _) (by omega) (by omega) ?_
      intro v' w' S' _
      go_wp2_with fail
      refine NoPanic.normal ?_
      go_wp2
      go_roundw
      case rel =>
        refine ⟨k + 1, by omega, by go_num, ?_⟩
        have S3 := S'.sub (L' := [_, _]) (List.sublist_append_left [_, _] [_])
        rw [gl_snoc, HL2.out]
        simpa [intsI] using S3
      case measure => simp [intOf]; omega
    · have HS := Lib.hid S
      clear S
      obtain rfl : k = n := by omega
      go_wp2
      go_ret2
      refine ⟨u9, rfl, ?_⟩
      rw [HLE.out]
      exact HS.out.sub (L' := [_]) (List.sublist_append_right [_] [_])
end Go.Proofs.YtcofdandmihilaaDoor
/- TopAdjusted: the adjusted strokes. -/
namespace Go.Proofs.YtcofdandmihilaaDoor
open Go.RowKit Go.Mem Go.Sheet Go.Adj
theorem play_bd {x : EI} (h : PlayE x) : 0 ≤ x.s ∧ x.s ≤ 99 := by
  rcases h with ⟨_, h1, h2⟩ | ⟨_, h⟩ <;> omega
theorem lim_bd {hs : List HI} {co : Int} (hg : GoodH hs) (hco : -99 ≤ co ∧ co ≤ 99) {k : Nat} (hk : k < hs.length) : -100 ≤ limF hs co k ∧ limF hs co k ≤ 108 := by
  have h1 := hg.par k hk
  have h2 := giv_bd hg.len hco k
  unfold limF
  omega
theorem adj_bd {hs : List HI} {es : List EI} {co : Int} (hg : GoodH hs) (hco : -99 ≤ co ∧ co ≤ 99) {k : Nat} (hk : k < hs.length) (he : PlayE (eAt es k)) : -100 ≤ adjF hs es co k ∧ adjF hs es co k ≤ 108 := by
  have h1 := lim_bd hg hco hk
  have h2 := play_bd he
  unfold adjF
  split <;> omega
theorem ret_tup {a b : Int} {v : Value} (h : a = b) : Ending.returned (.tuple #[.int .i64 a, v]) = .returned (.tuple #[.int .i64 b, v]) := by rw [h]
set_option maxRecDepth 100000 in
set_option maxHeartbeats 4000000 in
theorem adjusted_ok (W : World) (v ve : Value) (n : Nat) (hs : List HI) (es : List EI) (name : ByteArray) (co : Int) (hco : -99 ≤ co ∧ co ≤ 99) (h : CEnv W v ve n hs es name) :
    Calls Tryd.prog 7 #[v, .agg #[.string name, ve], .int .i64 co] W fun e w' => e = .returned (.tuple #[.int .i64 (sumTo (adjF hs es co) n), .int .i64 0]) ∧ Below W.heap.size W w' := by
  have HE := Lib.hid h
  have hl := h.len
  have hn := h.gh.len
  rw [← hl] at hn
  have HLB : Hid (∀ k, k < n → -100 ≤ limF hs co k ∧ limF hs co k ≤ 108) := fun k hk => lim_bd h.gh hco (by omega)
  have HSB : Hid (∀ k, k ≤ n → -10000 ≤ sumTo (adjF hs es co) k ∧ sumTo (adjF hs es co) k ≤ 10000) := fun k hk => by
    have := sumTo_bd (f := adjF hs es co) (a := -100) (b := 108) (n := k) (fun i hi => adj_bd h.gh hco (by omega) (h.ge i (by omega)))
    omega
  have HSS : Hid (∀ k, sumTo (adjF hs es co) (k + 1) = sumTo (adjF hs es co) k + adjF hs es co k) := fun _ => rfl
  have HAD : Hid (∀ k, adjF hs es co k = if (eAt es k).m = bx then limF hs co k else min (eAt es k).s (limF hs co k)) := fun _ => rfl
  have HLIM : Hid (∀ w, CEnv w v ve n hs es name → Calls Tryd.prog 17 #[v, .int .i64 co] w fun e w' => ∃ v', e = .returned (.tuple #[v', .int .i64 0]) ∧ St w w' [row 3 1 v' n (intsI (gl (limF hs co) n))]) := fun w h => limits_ok w v n hs co hco h.rh h.gh
  generalize limF hs co = LM at *
  have HS0 : Hid (sumTo (adjF hs es co) 0 = 0) := rfl
  generalize hAF : adjF hs es co = AF at *
  clear hAF
  obtain ⟨A, c, rfl, _, _, _⟩ := h.rh.open_
  obtain ⟨Ae, ce, rfl, _, _, _⟩ := h.re.open_
  clear h hl
  have hb := (Below.refl W.heap.size W).alloc (Nat.le_refl _) (.cells #[.string name, .slice Ae n ce] 25)
  have HB := Lib.hid hb
  have c0 : (W.alloc (.cells #[.string name, .slice Ae n ce] 25)).cell? ⟨W.heap.size, 0, none⟩ = some (.string name) := by simp
  have c1 : (W.alloc (.cells #[.string name, .slice Ae n ce] 25)).cell? ⟨W.heap.size, 1, none⟩ = some (.slice Ae n ce) := by simp
  have HE1 := Lib.hid (HE.out.later hb)
  clear hb HE
  go_enter Tryd.func7, Tryd.ntmps7
  go_wp2_with fail
  generalize W.alloc (.cells #[.string name, .slice Ae n ce] 25) = W1 at *
  generalize W.heap.size = gc at c0 c1 ⊢
  have hlt := World.block_lt_of_cell? _ _ c0
  go_at_call 16
  refine (checkCard_ok W1 _ _ n hs es name HE1.out).mono ?_
  rintro e W2 ⟨rfl, hb1⟩
  have d1 := (hb1.cell (p := ⟨gc, 1, none⟩) hlt).trans c1
  have HE2 := Lib.hid (HE1.out.later hb1)
  have HB1 := Lib.hid (HB.out.trans (hb1.mono HB.out.size))
  clear c0 c1 hb1 HE1 HB hlt
  have hlt := World.block_lt_of_cell? _ _ d1
  go_wp2_with (go_at_call 17; refine (HLIM.out _ HE2.out).mono ?_; rintro e w3 ⟨vg, rfl, S⟩; have d2 := (S.bel.cell (p := ⟨gc, 1, none⟩) hlt).trans d1; have S2 := (St.of_below HB1.out).call S; obtain ⟨bg, cg, rfl⟩ := row_some S2 (i := 0) rfl (by omega); have HS := Lib.hid S2; have HE3 := Lib.hid (HE2.out.later S.bel); clear S S2 d1 hlt)
  clear d2 HLIM
  have S0 := HS.out
  simp only [List.cons_append, List.nil_append] at S0
  have HW := Lib.hid (HS.out.bel)
  clear HS HE2 HB1
  go_loopw [32, 11] (fun i v w' => ∃ k : Nat, k ≤ n ∧ i = .int .i64 k ∧ v = .int .i64 (sumTo AF k) ∧ Below w3.heap.size w3 w' ∧ St W w' [row 3 1 (.slice (some ⟨bg, 0, none⟩) n cg) n (intsI (gl LM n))]) (fun i _ _ => n - (intOf i).toNat)
  case atStart => exact ⟨0, Nat.zero_le _, rfl, by rw [HS0.out], Below.refl _ _, S0⟩
  case round =>
    obtain ⟨k, hk, rfl, rfl, hb3, S⟩ := hrel
    clear S0
    by_cases hlt : k < n
    · have HEW := Lib.hid (HE3.out.later hb3)
      have HB3 := Lib.hid hb3
      obtain ⟨b, o, x, rfl, hx, c0, c1⟩ := HEW.out.re.elem2 (k := k) (fun s : EI => .int .i64 s.s) (fun s : EI => .string s.m) (fun _ => rfl) hlt
      have hpl := HEW.out.ge k hlt
      have had := HAD.out k
      rw [eAt_eq hx] at hpl had
      have hpb := play_bd hpl
      have hlb := HLB.out k hlt
      have hsb := HSB.out k hk
      have hsb2 := HSB.out (k + 1) (by omega)
      have hss := HSS.out k
      have HGA := Lib.hid (gl_at LM hlt)
      generalize LM k = lk at *
      rw [hss] at hsb2
      have HNX := Lib.hid hss
      generalize sumTo AF k = sk at *
      generalize AF k = ak at *
      have HS := Lib.hid S
      have l0 : wr.cell? ⟨bg, k, none⟩ = some (.int .i64 lk) := by
        have := rd_cellI (S.row_rd (i := 0) rfl) HGA.out
        rwa [Nat.zero_add] at this
      have hbg := World.block_lt_of_cell? _ _ l0
      have l1 : (wr.alloc (.cells #[.int .i64 x.s, .string x.m] 30)).cell? ⟨bg, k, none⟩ = some (.int .i64 lk) := (((Below.refl wr.heap.size wr).alloc (Nat.le_refl _) _).cell (p := ⟨bg, k, none⟩) hbg).trans l0
      obtain ⟨xs, xm⟩ := x
      simp only at c0 c1 had hpb l1
      have HB4 := Lib.hid (HB3.out.alloc HB3.out.size (.cells #[.int .i64 xs, .string xm] 30))
      clear hx S hb3 hss l0 hbg
      rcases hpl with ⟨hm | hm, _⟩ | ⟨hm, _⟩
      · change xm = ⟨#[]⟩ at hm
        subst hm
        rw [if_neg (by unfold bx; decide)] at had
        subst had
        by_cases hmn : lk < xs
        · have e1 : min xs lk = lk := by omega
          rw [e1] at hsb2 HNX
          go_wp2_with fail
          go_region
          go_wp2
          go_roundw
          case rel => exact ⟨k + 1, by omega, by go_num, by rw [HNX.out], HB4.out.drew, (HS.out.alloc _).drew⟩
          case measure => simp [intOf]; omega
        · have e1 : min xs lk = xs := by omega
          rw [e1] at hsb2 HNX
          go_wp2_with fail
          go_region
          go_wp2
          go_roundw
          case rel => exact ⟨k + 1, by omega, by go_num, by rw [HNX.out], HB4.out.drew, (HS.out.alloc _).drew⟩
          case measure => simp [intOf]; omega
      · change xm = ⟨#[99]⟩ at hm
        subst hm
        rw [if_neg (by unfold bx; decide)] at had
        subst had
        by_cases hmn : lk < xs
        · have e1 : min xs lk = lk := by omega
          rw [e1] at hsb2 HNX
          go_wp2_with fail
          go_region
          go_wp2
          go_roundw
          case rel => exact ⟨k + 1, by omega, by go_num, by rw [HNX.out], HB4.out.drew, (HS.out.alloc _).drew⟩
          case measure => simp [intOf]; omega
        · have e1 : min xs lk = xs := by omega
          rw [e1] at hsb2 HNX
          go_wp2_with fail
          go_region
          go_wp2
          go_roundw
          case rel => exact ⟨k + 1, by omega, by go_num, by rw [HNX.out], HB4.out.drew, (HS.out.alloc _).drew⟩
          case measure => simp [intOf]; omega
      · change xm = ⟨#[120]⟩ at hm
        subst hm
        rw [if_pos (by rfl)] at had
        subst had
        go_wp2
        go_roundw
        case rel => exact ⟨k + 1, by omega, by go_num, by rw [HNX.out], HB4.out, HS.out.alloc _⟩
        case measure => simp [intOf]; omega
    · have HS := Lib.hid S
      clear S
      obtain rfl : k = n := by omega
      go_wp2
      go_ret2
      exact ⟨rfl, HS.out.bel⟩
end Go.Proofs.YtcofdandmihilaaDoor
/- TopAdjusted: the net strokes of a player. -/
namespace Go.Proofs.YtcofdandmihilaaDoor
open Go.RowKit Go.Mem Go.Sheet Go.Adj
theorem eltN : Elt Tryd.prog 52 50 (.agg #[.int .i64 0, .string ⟨#[]⟩]) 2 24 := ⟨Tryd.underlying52, by kernel_rfl, rfl, by decide⟩
def netF (hs : List HI) (es : List EI) (co : Int) (i : Nat) : NI := if (eAt es i).m = bx then ⟨0, true⟩ else ⟨(eAt es i).s - givF hs co i, false⟩
def nl (f : Nat → NI) (k : Nat) : List NI := (List.range k).map f
theorem nl_snoc (f : Nat → NI) (k : Nat) : nl f (k + 1) = nl f k ++ [f k] := by unfold nl; rw [List.range_succ, List.map_append]; rfl
theorem nl_at (f : Nat → NI) {n k : Nat} (h : k < n) : (nl f n)[k]? = some (f k) := by unfold nl; rw [List.getElem?_map, List.getElem?_range h]; rfl
theorem nl_len (f : Nat → NI) (k : Nat) : (nl f k).length = k := by simp [nl]
theorem row_some2 {W w : World} {L : List Asr} {i : Nat} {e : TypeId} {n : Nat} {v : Value} {xs : List Value} (h : St W w L) (hi : L[i]? = some (row e 2 v n xs)) (hn : 1 ≤ n) : ∃ b c, v = .slice (some ⟨b, 0, none⟩) n c := by
  obtain ⟨g', cap', hv', _, _, _, _, _⟩ := h.row_form hi (by omega)
  exact ⟨_, _, hv'⟩
set_option maxRecDepth 100000 in
set_option maxHeartbeats 4000000 in
theorem nets_ok (W : World) (v ve : Value) (n : Nat) (hs : List HI) (es : List EI) (name : ByteArray) (co : Int) (hco : -99 ≤ co ∧ co ≤ 99) (h : CEnv W v ve n hs es name) :
    Calls Tryd.prog 39 #[.agg #[.string name, ve, .int .i64 co], v] W fun e w' => ∃ v', e = .returned v' ∧ St W w' [row 50 2 v' n ((nl (netF hs es co) n).flatMap NI.cells)] := by
  have HE := Lib.hid h
  have hl := h.len
  have hn := h.gh.len
  rw [← hl] at hn
  have HGB : Hid (∀ k, -100 ≤ givF hs co k ∧ givF hs co k ≤ 100) := fun k => giv_bd h.gh.len hco k
  have HNF : Hid (∀ k, netF hs es co k = if (eAt es k).m = bx then ⟨0, true⟩ else ⟨(eAt es k).s - givF hs co k, false⟩) := fun _ => rfl
  have HGIV : Hid (∀ w, CEnv w v ve n hs es name → Calls Tryd.prog 30 #[v, .int .i64 co] w fun e w' => ∃ v', e = .returned v' ∧ St w w' [row 3 1 v' n (intsI (gl (givF hs co) n))]) := fun w h => given_any w v n hs co hco h.rh h.gh
  generalize givF hs co = G at *
  generalize hNF : netF hs es co = NF at *
  clear hNF
  obtain ⟨A, c, rfl, _, _, _⟩ := h.rh.open_
  obtain ⟨Ae, ce, rfl, _, _, _⟩ := h.re.open_
  clear h hl
  have hb := (Below.refl W.heap.size W).alloc (Nat.le_refl _) (.cells #[.string name, .slice Ae n ce, .int .i64 co] 34)
  have HB := Lib.hid hb
  have c1 : (W.alloc (.cells #[.string name, .slice Ae n ce, .int .i64 co] 34)).cell? ⟨W.heap.size, 1, none⟩ = some (.slice Ae n ce) := by simp
  have c2 : (W.alloc (.cells #[.string name, .slice Ae n ce, .int .i64 co] 34)).cell? ⟨W.heap.size, 2, none⟩ = some (.int .i64 co) := by simp
  have HE1 := Lib.hid (HE.out.later hb)
  clear hb
  go_enter Tryd.func39, Tryd.ntmps39
  go_wp2_with fail
  generalize W.alloc (.cells #[.string name, .slice Ae n ce, .int .i64 co] 34) = W1 at *
  generalize W.heap.size = gc at c1 c2 ⊢
  have hlt := World.block_lt_of_cell? _ _ c1
  go_at_call 30
  refine (HGIV.out _ HE1.out).mono ?_
  rintro e w3 ⟨vg, rfl, S⟩
  have d1 := (S.bel.cell (p := ⟨gc, 1, none⟩) hlt).trans c1
  have S2 := (St.of_below HB.out).call S
  obtain ⟨bg, cg, rfl⟩ := row_some S2 (i := 0) rfl (by omega)
  have HS := Lib.hid S2
  clear S S2 c1 c2 hlt HE1 HB HGIV
  go_wp2
  clear d1
  have S0 := HS.out.row_nil 50 2
  simp only [List.cons_append, List.nil_append] at S0
  clear HS
  go_loopw [17, 5] (fun i v w' => ∃ k : Nat, k ≤ n ∧ i = .int .i64 k ∧ St W w' [row 3 1 (.slice (some ⟨bg, 0, none⟩) n cg) n (intsI (gl G n)), row 50 2 v k ((nl NF k).flatMap NI.cells)]) (fun i _ _ => n - (intOf i).toNat)
  case atStart => exact ⟨0, Nat.zero_le _, rfl, S0⟩
  case round =>
    obtain ⟨k, hk, rfl, S⟩ := hrel
    clear S0
    by_cases hlt : k < n
    · have HEW := Lib.hid (HE.out.later S.bel)
      obtain ⟨b, o, x, rfl, hx, c0, c1⟩ := HEW.out.re.elem2 (k := k) (fun s : EI => .int .i64 s.s) (fun s : EI => .string s.m) (fun _ => rfl) hlt
      have hpl := HEW.out.ge k hlt
      have hnf := HNF.out k
      rw [eAt_eq hx] at hpl hnf
      have hpb := play_bd hpl
      have hgb := HGB.out k
      have HGA := Lib.hid (gl_at G hlt)
      have HSN := Lib.hid (nl_snoc NF k)
      generalize G k = gk at *
      generalize NF k = nk at *
      have HS := Lib.hid S
      obtain ⟨xs, xm⟩ := x
      simp only at c0 c1 hnf hpb
      have SA := (HS.out.blk_new #[.int .i64 xs, .string xm] 30)
      simp only [List.cons_append, List.nil_append] at SA
      clear hx S
      rcases hpl with ⟨hm | hm, _⟩ | ⟨hm, _⟩
      · change xm = ⟨#[]⟩ at hm
        subst hm
        rw [if_neg (by unfold bx; decide)] at hnf
        subst hnf
        go_wp2_with fail
        clear c0 c1
        have SA := SA.drew
        generalize wr.heap.size = gx at *
        generalize hwd : (wr.alloc (.cells #[.int .i64 xs, .string ⟨#[]⟩] 30)).drew = wd at SA
        have hwd' : (wr.alloc (.cells #[.int .i64 xs, .string ⟨#[]⟩] 30)).drew = wd := hwd
        clear hwd
        refine wp_head_tail' 0 10 2 [] [0, 1, 2, 3, 4, 5, 6, 7] rfl (fun w' => ∃ L, St W w' ([row 3 1 (.slice (some ⟨bg, 0, none⟩) n cg) n (intsI (gl G n)), row 50 2 u5 k ((nl NF k).flatMap NI.cells), blk gx 30 #[.int .i64 xs, .string ⟨#[]⟩]] ++ L)) (by kernel_rfl) (by kernel_rfl) (by rw [hwd']; exact ⟨[], SA⟩) ?_
        simp only [pick, List.filterMap_cons, List.filterMap_nil, List.getElem?_toArray, List.getElem?_cons_succ, List.getElem?_cons_zero]
        generalize hK : (fun w' => ∃ L, St W w' ([row 3 1 (.slice (some ⟨bg, 0, none⟩) n cg) n (intsI (gl G n)), row 50 2 u5 k ((nl NF k).flatMap NI.cells), blk gx 30 #[.int .i64 xs, .string ⟨#[]⟩]] ++ L)) = K
        have kS : ∀ y : Wd K, ∃ L, St W y.w ([row 3 1 (.slice (some ⟨bg, 0, none⟩) n cg) n (intsI (gl G n)), row 50 2 u5 k ((nl NF k).flatMap NI.cells), blk gx 30 #[.int .i64 xs, .string ⟨#[]⟩]] ++ L) := by subst hK; exact fun y => y.h
        have hK2 : ∀ w' L, St W w' ([row 3 1 (.slice (some ⟨bg, 0, none⟩) n cg) n (intsI (gl G n)), row 50 2 u5 k ((nl NF k).flatMap NI.cells), blk gx 30 #[.int .i64 xs, .string ⟨#[]⟩]] ++ L) → K w' := by subst hK; exact fun _ _ h => ⟨_, h⟩
        have hne : Nonempty (Wd K) := ⟨⟨wd, hK2 _ [] SA⟩⟩
        have k0 : ∀ y : Wd K, y.w.cell? ⟨gx, 0, none⟩ = some (.int .i64 xs) := fun y => by
          obtain ⟨L, h⟩ := kS y
          exact h.blk_cell (i := 2) rfl 0
        have k1 : ∀ y : Wd K, y.w.cell? ⟨bg, k, none⟩ = some (.int .i64 gk) := fun y => by
          obtain ⟨L, h⟩ := kS y
          have := rd_cellI (h.row_rd (i := 0) rfl) HGA.out
          rwa [Nat.zero_add] at this
        rw [hwd']
        clear hK kS hwd' HS
        refine wpQuiet_nil ?_
        change wpQuiet _ _ _ _ (_ :: _ :: _ :: _ :: _ :: _ :: _ :: _ :: []) _
        repeat (go_big_quiet_step ((fail)))
        refine wpQuiet_nil ?_
        clear k0 k1 hne
        refine headW_all (rs := [8]) (by kernel_rfl) (by simp) (by kernel_rfl) ?_
        intro i hi
        obtain rfl := List.mem_singleton.1 hi
        refine wpOp_list rfl ?_
        intro Q' hQ'
        go_wp2_with fail
        refine ⟨hK2 _ [] SA, ?_⟩
        refine headW_all (rs := [9]) (by kernel_rfl) (by simp) (by kernel_rfl) ?_
        intro i hi
        obtain rfl := List.mem_singleton.1 hi
        refine wpOp_list rfl ?_
        intro Q' hQ'
        go_wp2_with fail
        have SB := SA.alloc (.cells #[.int .i64 (xs - gk), .string ⟨#[]⟩] 50)
        refine ⟨hK2 _ [] SB, by kernel_rfl, ?_⟩
        clear hK2
        refine wpList_append_st eltN rfl _ _ rfl rfl SB (k := 1) rfl rfl (rd_two (by simp)) (one_net _ _ _) (by omega) (by omega) ?_
        intro v' w' S' _
        go_wp2_with fail
        refine NoPanic.normal ?_
        go_wp2
        go_roundw
        case rel =>
          refine ⟨k + 1, by omega, by go_num, ?_⟩
          have S3 := S'.sub (L' := [_, _]) (List.sublist_append_left [_, _] [_])
          rw [HSN.out, List.flatMap_append]
          simpa [NI.cells, mkN] using S3
        case measure => simp [intOf]; omega
      · change xm = ⟨#[99]⟩ at hm
        subst hm
        rw [if_neg (by unfold bx; decide)] at hnf
        subst hnf
        go_wp2_with fail
        clear c0 c1
        have SA := SA.drew
        generalize wr.heap.size = gx at *
        generalize hwd : (wr.alloc (.cells #[.int .i64 xs, .string ⟨#[99]⟩] 30)).drew = wd at SA
        have hwd' : (wr.alloc (.cells #[.int .i64 xs, .string ⟨#[99]⟩] 30)).drew = wd := hwd
        clear hwd
        refine wp_head_tail' 0 10 2 [] [0, 1, 2, 3, 4, 5, 6, 7] rfl (fun w' => ∃ L, St W w' ([row 3 1 (.slice (some ⟨bg, 0, none⟩) n cg) n (intsI (gl G n)), row 50 2 u5 k ((nl NF k).flatMap NI.cells), blk gx 30 #[.int .i64 xs, .string ⟨#[99]⟩]] ++ L)) (by kernel_rfl) (by kernel_rfl) (by rw [hwd']; exact ⟨[], SA⟩) ?_
        simp only [pick, List.filterMap_cons, List.filterMap_nil, List.getElem?_toArray, List.getElem?_cons_succ, List.getElem?_cons_zero]
        generalize hK : (fun w' => ∃ L, St W w' ([row 3 1 (.slice (some ⟨bg, 0, none⟩) n cg) n (intsI (gl G n)), row 50 2 u5 k ((nl NF k).flatMap NI.cells), blk gx 30 #[.int .i64 xs, .string ⟨#[99]⟩]] ++ L)) = K
        have kS : ∀ y : Wd K, ∃ L, St W y.w ([row 3 1 (.slice (some ⟨bg, 0, none⟩) n cg) n (intsI (gl G n)), row 50 2 u5 k ((nl NF k).flatMap NI.cells), blk gx 30 #[.int .i64 xs, .string ⟨#[99]⟩]] ++ L) := by subst hK; exact fun y => y.h
        have hK2 : ∀ w' L, St W w' ([row 3 1 (.slice (some ⟨bg, 0, none⟩) n cg) n (intsI (gl G n)), row 50 2 u5 k ((nl NF k).flatMap NI.cells), blk gx 30 #[.int .i64 xs, .string ⟨#[99]⟩]] ++ L) → K w' := by subst hK; exact fun _ _ h => ⟨_, h⟩
        have hne : Nonempty (Wd K) := ⟨⟨wd, hK2 _ [] SA⟩⟩
        have k0 : ∀ y : Wd K, y.w.cell? ⟨gx, 0, none⟩ = some (.int .i64 xs) := fun y => by
          obtain ⟨L, h⟩ := kS y
          exact h.blk_cell (i := 2) rfl 0
        have k1 : ∀ y : Wd K, y.w.cell? ⟨bg, k, none⟩ = some (.int .i64 gk) := fun y => by
          obtain ⟨L, h⟩ := kS y
          have := rd_cellI (h.row_rd (i := 0) rfl) HGA.out
          rwa [Nat.zero_add] at this
        rw [hwd']
        clear hK kS hwd' HS
        refine wpQuiet_nil ?_
        change wpQuiet _ _ _ _ (_ :: _ :: _ :: _ :: _ :: _ :: _ :: _ :: []) _
        repeat (go_big_quiet_step ((fail)))
        refine wpQuiet_nil ?_
        clear k0 k1 hne
        refine headW_all (rs := [8]) (by kernel_rfl) (by simp) (by kernel_rfl) ?_
        intro i hi
        obtain rfl := List.mem_singleton.1 hi
        refine wpOp_list rfl ?_
        intro Q' hQ'
        go_wp2_with fail
        refine ⟨hK2 _ [] SA, ?_⟩
        refine headW_all (rs := [9]) (by kernel_rfl) (by simp) (by kernel_rfl) ?_
        intro i hi
        obtain rfl := List.mem_singleton.1 hi
        refine wpOp_list rfl ?_
        intro Q' hQ'
        go_wp2_with fail
        have SB := SA.alloc (.cells #[.int .i64 (xs - gk), .string ⟨#[]⟩] 50)
        refine ⟨hK2 _ [] SB, by kernel_rfl, ?_⟩
        clear hK2
        refine wpList_append_st eltN rfl _ _ rfl rfl SB (k := 1) rfl rfl (rd_two (by simp)) (one_net _ _ _) (by omega) (by omega) ?_
        intro v' w' S' _
        go_wp2_with fail
        refine NoPanic.normal ?_
        go_wp2
        go_roundw
        case rel =>
          refine ⟨k + 1, by omega, by go_num, ?_⟩
          have S3 := S'.sub (L' := [_, _]) (List.sublist_append_left [_, _] [_])
          rw [HSN.out, List.flatMap_append]
          simpa [NI.cells, mkN] using S3
        case measure => simp [intOf]; omega
      · change xm = ⟨#[120]⟩ at hm
        subst hm
        rw [if_pos (by rfl)] at hnf
        subst hnf
        go_wp2_with (at_builtin; refine wpList_append_st eltN rfl _ _ rfl rfl (SA.alloc _) (k := 1) rfl rfl (rd_two (by simp)) (one_net _ _ _) (by omega) (by omega) ?_; intro v' w' S' _)
        go_roundw
        case rel =>
          refine ⟨k + 1, by omega, by go_num, ?_⟩
          have S3 := S'.sub (L' := [_, _]) (List.sublist_append_left [_, _] [_])
          rw [HSN.out, List.flatMap_append]
          simpa [NI.cells, mkN] using S3
        case measure => simp [intOf]; omega
    · have HS := Lib.hid S
      clear S
      obtain rfl : k = n := by omega
      go_wp2
      go_ret
      exact ⟨u5, rfl, HS.out.sub (L' := [_]) (List.sublist_append_right [_] [_])⟩
end Go.Proofs.YtcofdandmihilaaDoor
/- TopAdjusted: sums, gross and net scores. -/
namespace Go.Proofs.YtcofdandmihilaaDoor
open Go.RowKit Go.Mem Go.Sheet Go.Adj
set_option maxRecDepth 100000 in
set_option maxHeartbeats 4000000 in
theorem sumE_ok (W : World) (ve : Value) (n : Nat) (es : List EI) (h : Rd W (· < W.heap.size) 2 ve n (es.flatMap EI.cells)) (hn : n ≤ 36) (hb : ∀ i, i < n → 0 ≤ (eAt es i).s ∧ (eAt es i).s ≤ 99) :
    Calls Tryd.prog 22 #[ve, .func (.func 23) #[] #[]] W fun e w' => e = .returned (.int .i64 (sumTo (fun i => (eAt es i).s) n)) ∧ Below W.heap.size W w' := by
  have HB := Lib.hid hb
  have H := Lib.hid h
  have HSB : Hid (∀ k, k ≤ n → 0 ≤ sumTo (fun i => (eAt es i).s) k ∧ sumTo (fun i => (eAt es i).s) k ≤ 10000) := fun k hk => by
    have := sumTo_bd (f := fun i => (eAt es i).s) (a := 0) (b := 99) (n := k) (fun i hi => hb i (by omega))
    omega
  have HSS : Hid (∀ k, sumTo (fun i => (eAt es i).s) (k + 1) = sumTo (fun i => (eAt es i).s) k + (eAt es k).s) := fun _ => rfl
  have HS0 : Hid (sumTo (fun i => (eAt es i).s) 0 = 0) := rfl
  generalize hSF : sumTo (fun i => (eAt es i).s) = SF at *
  clear hSF
  obtain ⟨A, c, rfl, _, _, _⟩ := h.open_
  clear h hb
  go_enter Tryd.func22, Tryd.ntmps22
  go_wp2
  go_loopw [10, 5] (fun i v w' => ∃ k : Nat, k ≤ n ∧ i = .int .i64 k ∧ v = .int .i64 (SF k) ∧ Below W.heap.size W w') (fun i _ _ => n - (intOf i).toNat)
  case atStart => exact ⟨0, Nat.zero_le _, rfl, by rw [HS0.out], Below.refl _ _⟩
  case round =>
    obtain ⟨k, hk, rfl, rfl, hbw⟩ := hrel
    by_cases hlt : k < n
    · obtain ⟨b, o, x, rfl, hx, c0, c1⟩ := (H.out.below hbw).elem2 (k := k) (fun s : EI => .int .i64 s.s) (fun s : EI => .string s.m) (fun _ => rfl) hlt
      have hxb := HB.out k hlt
      have hs1 := HSB.out k hk
      have hs2 := HSB.out (k + 1) (by omega)
      have hss := HSS.out k
      rw [eAt_eq hx] at hxb hss
      rw [hss] at hs2
      obtain ⟨xs, xm⟩ := x
      simp only at c0 c1 hxb hss hs2
      have HSK := Lib.hid hss
      generalize SF k = sk at *
      have HBW := Lib.hid (hbw.alloc hbw.size (.cells #[.int .i64 xs, .string xm] 30))
      clear hx hss hbw
      go_wp2_with (go_at_call 23; refine (gross1_any _ _ _).mono ?_; rintro e w' ⟨rfl, hb2⟩; have HB2 := Lib.hid hb2; clear hb2)
      go_roundw
      case rel => exact ⟨k + 1, by omega, by go_num, by rw [HSK.out], HBW.out.trans (HB2.out.mono HBW.out.size)⟩
      case measure => simp [intOf]; omega
    · have HBW := Lib.hid hbw
      clear hbw
      obtain rfl : k = n := by omega
      go_wp2
      go_ret
      exact ⟨rfl, HBW.out⟩
theorem net_elem {w : World} {S : Nat → Prop} {n : Nat} {l : List NI} {A : Option Addr} {m c k : Nat} (h : Rd w S 2 (.slice A m c) n (l.flatMap NI.cells)) (hk : k < n) :
    ∃ g o x, A = some ⟨g, o, none⟩ ∧ l[k]? = some x ∧ w.cell? ⟨g, o + k * 2, none⟩ = some (.int .i64 x.s) ∧ w.cell? ⟨g, o + k * 2 + 1, none⟩ = some (.string (mkN x.x)) :=
  h.elem2 (k := k) (fun s : NI => .int .i64 s.s) (fun s : NI => .string (mkN s.x)) (fun _ => rfl) hk
set_option maxRecDepth 100000 in
set_option maxHeartbeats 4000000 in
theorem sumN_ok (W : World) (v : Value) (n : Nat) (NF : Nat → NI) (h : Rd W (· < W.heap.size) 2 v n ((nl NF n).flatMap NI.cells)) (hn : n ≤ 36) (hb : ∀ i, i < n → -200 ≤ (NF i).s ∧ (NF i).s ≤ 200) :
    Calls Tryd.prog 24 #[v, .func (.func 25) #[] #[]] W fun e w' => e = .returned (.int .i64 (sumTo (fun i => (NF i).s) n)) ∧ Below W.heap.size W w' := by
  have HB := Lib.hid hb
  have H := Lib.hid h
  have HSB : Hid (∀ k, k ≤ n → -10000 ≤ sumTo (fun i => (NF i).s) k ∧ sumTo (fun i => (NF i).s) k ≤ 10000) := fun k hk => by
    have := sumTo_bd (f := fun i => (NF i).s) (a := -200) (b := 200) (n := k) (fun i hi => hb i (by omega))
    omega
  have HSS : Hid (∀ k, sumTo (fun i => (NF i).s) (k + 1) = sumTo (fun i => (NF i).s) k + (NF k).s) := fun _ => rfl
  have HS0 : Hid (sumTo (fun i => (NF i).s) 0 = 0) := rfl
  generalize hSF : sumTo (fun i => (NF i).s) = SF at *
  clear hSF
  obtain ⟨A, c, rfl, _, _, _⟩ := h.open_
  clear h hb
  go_enter Tryd.func24, Tryd.ntmps24
  go_wp2
  go_loopw [10, 5] (fun i v w' => ∃ k : Nat, k ≤ n ∧ i = .int .i64 k ∧ v = .int .i64 (SF k) ∧ Below W.heap.size W w') (fun i _ _ => n - (intOf i).toNat)
  case atStart => exact ⟨0, Nat.zero_le _, rfl, by rw [HS0.out], Below.refl _ _⟩
  case round =>
    obtain ⟨k, hk, rfl, rfl, hbw⟩ := hrel
    by_cases hlt : k < n
    · obtain ⟨b, o, x, rfl, hx, c0, c1⟩ := net_elem (H.out.below hbw) hlt
      have hxe : NF k = x := Option.some.inj ((nl_at NF hlt).symm.trans hx)
      have hxb := HB.out k hlt
      have hs1 := HSB.out k hk
      have hs2 := HSB.out (k + 1) (by omega)
      have hss := HSS.out k
      rw [hxe] at hxb hss
      rw [hss] at hs2
      obtain ⟨xs, xx⟩ := x
      simp only at c0 c1 hxb hss hs2
      generalize mkN xx = xm at *
      have HSK := Lib.hid hss
      generalize SF k = sk at *
      have HBW := Lib.hid (hbw.alloc hbw.size (.cells #[.int .i64 xs, .string xm] 50))
      clear hx hss hbw hxe
      go_wp2_with (go_at_call 25; refine (netStrokes_any _ _ _).mono ?_; rintro e w' ⟨rfl, hb2⟩; have HB2 := Lib.hid hb2; clear hb2)
      go_roundw
      case rel => exact ⟨k + 1, by omega, by go_num, by rw [HSK.out], HBW.out.trans (HB2.out.mono HBW.out.size)⟩
      case measure => simp [intOf]; omega
    · have HBW := Lib.hid hbw
      clear hbw
      obtain rfl : k = n := by omega
      go_wp2
      go_ret
      exact ⟨rfl, HBW.out⟩
set_option maxRecDepth 100000 in
set_option maxHeartbeats 4000000 in
theorem idxN_ok (W : World) (v : Value) (n : Nat) (NF : Nat → NI) (h : Rd W (· < W.heap.size) 2 v n ((nl NF n).flatMap NI.cells)) (hx : ∀ i, i < n → (NF i).x = false) :
    Calls Tryd.prog 49 #[v, .func (.func 46) #[] #[]] W fun e w' => e = .returned (.int .i64 (-1)) ∧ Below W.heap.size W w' := by
  have HX := Lib.hid hx
  have H := Lib.hid h
  have hn := h.le
  obtain ⟨A, c, rfl, _, _, _⟩ := h.open_
  clear h hx
  go_enter Tryd.func49, Tryd.ntmps49
  go_wp2
  go_loopw [8] (fun i w' => ∃ k : Nat, k ≤ n ∧ i = .int .i64 k ∧ Below W.heap.size W w') (fun i _ => n - (intOf i).toNat)
  case atStart => exact ⟨0, Nat.zero_le _, rfl, Below.refl _ _⟩
  case round =>
    obtain ⟨k, hk, rfl, hbw⟩ := hrel
    by_cases hlt : k < n
    · obtain ⟨b, o, x, rfl, hx, c0, c1⟩ := net_elem (H.out.below hbw) hlt
      have hxe : NF k = x := Option.some.inj ((nl_at NF hlt).symm.trans hx)
      have hxx := HX.out k hlt
      rw [hxe] at hxx
      obtain ⟨xs, xx⟩ := x
      simp only at c0 c1 hxx
      subst hxx
      have HC : Hid (∀ w, Calls Tryd.prog 46 #[.agg #[.int .i64 xs, .string (mkN false)]] w fun r w' => r = .returned (.bool false) ∧ Below w.heap.size w w') := fun w => all1_any xs false w
      generalize mkN false = xm at *
      have HBW := Lib.hid hbw
      clear hx hbw hxe
      go_wp2_with (go_at_call 46; refine (HC.out _).mono ?_; rintro e w' ⟨rfl, hb2⟩; have HB2 := Lib.hid hb2; clear hb2)
      go_roundw
      case rel => exact ⟨k + 1, by omega, by go_num, HBW.out.trans (HB2.out.mono HBW.out.size)⟩
      case measure => simp [intOf]; omega
    · have HBW := Lib.hid hbw
      clear hbw
      obtain rfl : k = n := by omega
      go_wp2
      go_ret
      exact ⟨rfl, HBW.out⟩
theorem all_ok (W : World) (v : Value) (n : Nat) (NF : Nat → NI) (h : Rd W (· < W.heap.size) 2 v n ((nl NF n).flatMap NI.cells)) (hx : ∀ i, i < n → (NF i).x = false) :
    Calls Tryd.prog 40 #[v] W fun e w' => e = .returned (.bool true) ∧ Below W.heap.size W w' := by
  have HI := Lib.hid (idxN_ok W v n NF h hx)
  obtain ⟨A, c, rfl, _, _, _⟩ := h.open_
  clear h hx
  have HC : Hid (Calls Tryd.prog 45 #[.slice A n c, .func (.func 46) #[] #[]] W fun e w' => e = .returned (.bool false) ∧ Below W.heap.size W w') := by
    show Calls _ _ _ _ _
    go_enter Tryd.func45, Tryd.ntmps45
    go_wp2_with (go_at_call 49; refine HI.out.mono ?_; rintro e w' ⟨rfl, hb2⟩; have HB2 := Lib.hid hb2; clear hb2)
    go_ret
    exact ⟨rfl, HB2.out⟩
  go_enter Tryd.func40, Tryd.ntmps40
  go_wp2_with (go_at_call 45; refine HC.out.mono ?_; rintro e w' ⟨rfl, hb2⟩; have HB2 := Lib.hid hb2; clear hb2)
  go_ret
  exact ⟨rfl, HB2.out⟩
end Go.Proofs.YtcofdandmihilaaDoor
