/- Part 4 of the walks of the golf union's program: TailP. -/
import Derived.Test.YtnaafefcijgpkaaGreatDoorB01
set_option linter.unusedVariables false
set_option linter.unusedSimpArgs false
set_option linter.unusedSectionVars false
set_option linter.constructorNameAsVariable false
/- A drawn region: first m operations that have one value in whatever world; then operations that have one value in every world of a class (calls among them); then a forced tail. -/
namespace Go.Mem
open Go Go.RowKit
variable {P : Program} {ops : Array Oper} {md : Region.Mode} {C : World → Prop}
section
variable {m n i : Nat} {oi : Oper} {v : Value} {L : Array Bool → Act → Prop}
theorem headAnyM_first (hi : ops[i]? = some oi) (hsel : ∀ (j : Nat) (o : Oper) cs b, ops[j]? = some o → o.op ≠ .select cs b) (hs : sinkFrom md ops m n = true) (hc : Region.chainB md ops n = true)
    (hn : n < ops.size) (hin : i < n) (hend : ∀ ls a, L ls a → ∀ j ∈ Region.ready md ops ls, n ≤ j) (k : Nat) :
    ∀ (ls : Array Bool) (a : Act), HeadInv md ops n ls → (∀ i < m, ls.getD i true = true) →
      (∀ j oj, ops[j]? = some oj → j ≠ i → ls.getD j true = false → (∀ e ∈ oj.after, Region.binds md e = true → e.on ≠ i) → oi.apart ops oj = true) →
      i ∈ Region.ready md ops ls → YieldsIn P ops C oi v a → headAny P md ops C n L k (ls.setIfInBounds i true) (a.put oi.dst v) → headAny P md ops C n L (k + 1) ls a := by
  have inHead : ∀ (ls : Array Bool), HeadInv md ops n ls → (∀ i < m, ls.getD i true = true) → i ∈ Region.ready md ops ls → ∀ j ∈ Region.ready md ops ls, j < n := by
    intro ls inv hm hr j hj
    rcases Nat.lt_or_ge j n with h | h
    · exact h
    · have hun := (mem_ready.1 hr).1
      have hmi : m ≤ i := by
        rcases Nat.lt_or_ge i m with h' | h'
        · rw [hm i h'] at hun; cases hun
        · exact h'
      exact absurd hj (tail_waits' hs hc hn inv _ i rfl hmi hin hun j h)
  induction k with
  | zero =>
    intro ls a inv hm _ hr hy H
    refine ⟨fun h => (by rw [h] at hr; cases hr), fun j hj => ⟨inHead ls inv hm hr j hj, ?_⟩⟩
    by_cases e : j = i
    · subst e; exact hy.qOp hi H
    · have h1 := hend _ _ H j (ready_mono hj e)
      have h2 := inHead ls inv hm hr j hj
      omega
  | succ k ih =>
    intro ls a inv hm hfree hr hy H
    refine ⟨fun h => (by rw [h] at hr; cases hr), fun j hj => ⟨inHead ls inv hm hr j hj, ?_⟩⟩
    by_cases e : j = i
    · subst e; exact hy.qOp hi H
    · obtain ⟨hju, oj, hoj, hall⟩ := mem_ready.1 hj
      have hnot : ∀ d ∈ oj.after, Region.binds md d = true → d.on ≠ i := fun d hd hb hq => by
        have h1 := hall d hd hb
        rw [hq, getD_both (mem_ready.1 hr).1] at h1
        cases h1
      have h1 := qOp_put hoj (hfree j oj hoj e hju hnot) (fun cs b => hsel i oi cs b hi) (fun cs b => hsel j oj cs b hoj) hy (H.2 j (ready_mono hj e)).2
      refine qOp_mono (fun a' h2 => ?_) h1
      refine ih (ls.setIfInBounds j true) a' (inv.set hj (inHead ls inv hm hr j hj)) (fun x hx => setAll_true [j] ls x (hm x hx)) (fun m om hm hmi hmu hno => ?_) (ready_mono hr (Ne.symm e)) h2.1 ?_
      · refine hfree m om hm hmi ?_ hno
        by_cases hjm : j = m
        · subst hjm; exact hju
        · rw [getD_set_ne true hjm] at hmu; exact hmu
      · rw [Array.setIfInBounds_comm _ _ e]
        exact h2.2
end
theorem headAnyM_lex {m n g : Nat} {R : Act → Prop} (hsel : Region.noSelect ops = true) (hs : sinkFrom md ops m n = true) (hc : Region.chainB md ops n = true) (hn : n < ops.size) (l : List Oper) :
    ∀ (k : Nat) (ls : Array Bool) (a : Act), (∀ j, j < l.length → l[j]? = ops[k + j]?) → k + l.length = n → HeadInv md ops n ls → (∀ i < m, ls.getD i true = true) → Region.lexHead md ops g l.length k ls = true → wpQuiet P ops C R l a →
      headAny P md ops C n (fun ls' a' => Region.seqB md ops g n ls' = true ∧ R a') l.length ls a := by
  induction l with
  | nil =>
    intro k ls a _ hk _ _ hB h
    obtain rfl : k = n := by simpa using hk
    exact ⟨by simpa [Region.lexHead] using hB, h⟩
  | cons o l ih =>
    intro k ls a hl hk inv hm hB h
    have h0 : ops[k]? = some o := by simpa using (hl 0 (by simp)).symm
    simp only [List.length_cons] at hk
    simp only [List.length_cons, Region.lexHead, Bool.and_eq_true] at hB
    have hkn : k < n := by omega
    have hr : k ∈ Region.ready md ops ls := by simpa using hB.1.1
    have hq : qOp P ops C k (wpQuiet P ops C R l) a := by unfold qOp; simp only [h0]; exact h
    obtain ⟨v, hy, hK⟩ := yieldsIn_of_qOp h0 hq
    refine headAnyM_first h0 (Region.noSelect_spec hsel) hs hc hn hkn (fun ls' a' hL => seqB_ready hL.1) l.length ls a inv hm (Region.free_spec h0 hB.1.2) hr hy ?_
    refine ih (k + 1) _ _ (fun j hj => ?_) (by omega) (inv.set hr hkn) (fun x hx => setAll_true [k] ls x (hm x hx)) hB.2 hK
    have := hl (j + 1) (by simp only [List.length_cons]; omega)
    simpa [Nat.add_assoc, Nat.add_comm 1 j] using this
/-- what the numbers of a region must be -/
def preTailB (ops : Array Oper) (m n : Nat) : Bool :=
  let l0 := Array.replicate ops.size false
  let l1 := setAll (List.range m) l0
  Region.noSelect ops && decide (n < ops.size) && decide (m ≤ n) && sinkFrom .any ops m n && Region.chainB .any ops n && lexIs .any ops (List.range m) l0 && Region.lexHead .any ops (ops.size - n) (n - m) m l1
/-- the law -/
theorem wp_pre_tail {id : Nat} {Q : Exit → Act → World → Prop} {a : Act} {w : World} {l : List Oper} (m n : Nat) (K : World → Prop) (hm : P.follows .mixedOrders = true) (hB : preTailB l.toArray m n = true) (hC : K w.drew)
    (h : Nonempty (Wd K) → wpQuiet P l.toArray (fun _ => True) (fun a1 => wpQuiet P l.toArray (fun w' => ∃ x : Wd K, w' = x.w) (fun a' => ∀ x : Wd K, wpList P l.toArray (NoPanic Q) (l.drop n) a' x.w) ((l.drop m).take (n - m)) a1) (l.take m) a) : (Code.region id l.toArray true).wp P Q a w := by
  simp only [preTailB, Bool.and_eq_true, decide_eq_true_eq] at hB
  obtain ⟨⟨⟨⟨⟨⟨hsel, hn⟩, hmn⟩, hs⟩, hc⟩, hpre⟩, hlex⟩ := hB
  have hQ : ∀ c a a' w, NoPanic Q (.panic c) a' w → NoPanic Q (.panic c) a w := fun _ _ _ _ h => (h : False).elim
  have inv0 : HeadInv .any l.toArray n (Array.replicate l.toArray.size false) :=
    ⟨by simp, fun j oj _ hl => (by rw [getD_replicate_false] at hl; cases hl), fun t _ ht => getD_in (by simpa using ht) (getD_replicate_false _ _)⟩
  have inv1 := HeadInv.setAll (List.range m) _ inv0 hpre fun i hi => by have := List.mem_range.1 hi; omega
  refine wp_region_noPanic (wp_region_any hm ?_)
  have hn' : n < l.length := by simpa using hn
  have hdl : (l.drop n).length = l.toArray.size - n := by simp
  have hml : ((l.drop m).take (n - m)).length = n - m := by simp; omega
  have hpk : pick l.toArray (List.range m) = l.take m := by
    refine List.ext_getElem? fun i => ?_
    have key : ∀ k, k ≤ l.length → pick l.toArray (List.range k) = l.take k := by
      intro k
      induction k with
      | zero => intro _; rfl
      | succ k ih =>
        intro hk
        rw [List.range_succ, pick, List.filterMap_append]
        have := ih (by omega)
        rw [pick] at this
        rw [this, List.take_succ_eq_append_getElem (by omega)]
        simp [show k < l.length by omega]
    rw [key m (by omega)]
  have e : (fun w' => ∃ x : Wd K, w' = x.w) = K := by
    funext w'
    exact propext ⟨fun ⟨y, hy⟩ => hy ▸ y.h, fun h => ⟨⟨w', h⟩, rfl⟩⟩
  have h1 := h ⟨⟨_, hC⟩⟩
  rw [e] at h1
  have hsz : l.toArray.size = (List.range m).length + (((l.drop m).take (n - m)).length + (l.toArray.size - n)) := by rw [List.length_range, hml]; omega
  have hfu : wpAny P .any l.toArray (NoPanic Q) ((List.range m).length + (((l.drop m).take (n - m)).length + (l.toArray.size - n))) (Array.replicate l.toArray.size false) a w.drew := by
    refine wpAny_pre hsel hQ (List.range m) _ _ hpre ?_
    rw [hpk]
    refine wpQuiet_mono' (fun a1 h3 => ?_) h1
    have H := headAnyM_lex (md := .any) (g := l.toArray.size - n) hsel hs hc hn ((l.drop m).take (n - m)) m _ a1 (fun j hj => by
      rw [hml] at hj
      rw [List.getElem?_take_of_lt hj, List.getElem?_drop]
      simp) (by rw [hml]; omega) inv1 (fun i hi => setAll_mem _ _ i (List.mem_range.2 hi)) (by rw [hml]; exact hlex) h3
    refine headAny_sound (fun ls a' w' hw' hL => ?_) _ _ _ _ hC H
    have := wpAny_of_seq (P := P) (md := .any) (Q' := NoPanic Q) (l.drop n) n ls a' w' (fun j => by simp [List.getElem?_drop]) (by rw [hdl]; exact hL.1) (hL.2 ⟨w', hw'⟩)
    rwa [hdl] at this
  rw [← hsz] at hfu
  exact hfu
end Go.Mem
