/- Part 7 of the walks of the golf union's program: TailW. -/
import Derived.Test.YtlffgdmljioaoaaGreatDoorD04
import Derived.OrdersHeld
import Derived.Deep.RegionHeld3
set_option linter.unusedVariables false
set_option linter.unusedSimpArgs false
set_option linter.unusedSectionVars false
set_option linter.constructorNameAsVariable false
/- A drawn region of three parts: first m operations that have one value in whatever world; quiet operations (loads) that have one value in every world that meets S; loud operations that keep S, in whatever order; then a forced tail. -/
namespace Go.Mem
open Go Go.RowKit
variable {P : Program} {ops : Array Oper} {md : Region.Mode} {S : World → Prop} {Q : Exit → Act → World → Prop}
/-- operations that yield a value and nothing else -/
def plainOp : Op → Bool
  | .move _ | .assign _ | .fieldAddr _ _ _ | .load _ _ | .nilCheck _ | .indexAddr _ _ _ => true
  | .binOp _ _ _ _ _ => true
  | .call { callee := .builtin .len, args := _, argTypes := _ } => true
  | .call { callee := .builtin .max, args := _, argTypes := _ } => true
  | .call { callee := .builtin .min, args := _, argTypes := _ } => true
  | _ => false
def Good (P : Program) (t : Sem Next) : Prop := ∀ w w' n, t.run P w = .ok n w' → ∃ v, n = .value v
theorem Good.pure (x : Value) : Good P (Pure.pure (Next.value x)) := fun w w' n h => by
  simp only [Sem.run_pure, Result.ok.injEq] at h; exact ⟨_, h.1.symm⟩
theorem Good.bind {α : Type} (s : Sem α) (f : α → Sem Next) (h : ∀ x, Good P (f x)) : Good P (s >>= f) := fun w w' n hs => by
  simp only [Sem.run_bind] at hs
  cases hq : s.run P w with
  | ok x w2 => rw [hq] at hs; simp only [Result.andThen_ok] at hs; exact h x _ _ _ hs
  | halt x w2 => rw [hq] at hs; simp [Result.andThen] at hs
theorem Good.nilDeref : Good P (runtimePanic .nilDeref) := fun w w' n h => by
  simp [runtimePanic, goPanic, go_sem] at h
theorem plain_good {o : Oper} (h : plainOp o.op = true) (ρ : Operand → Value) : Good P (execOp ρ o) := by
  unfold execOp
  unfold plainOp at h
  split at h
  · rename_i e; simp only [e]; exact .pure _
  · rename_i e; simp only [e]; exact .pure _
  · rename_i e; simp only [e]; exact .bind _ _ fun x => .pure x
  · rename_i e; simp only [e]; exact .bind _ _ fun x => .pure x
  · rename_i e
    simp only [e]
    split
    · exact .nilDeref
    · exact .nilDeref
    · exact .nilDeref
    · split
      · exact .nilDeref
      · refine .bind _ _ fun x => .bind _ _ fun y => ?_
        split
        · exact .bind _ _ fun _ => .pure _
        · exact .pure _
      · exact .pure _
    · exact .pure _
  · rename_i e; simp only [e]; exact .bind _ _ fun x => .pure x
  · rename_i e; simp only [e]; exact .bind _ _ fun x => .pure x
  · rename_i e
    simp only [e, resolve, invoke, builtin]
    intro w w' n hs
    simp only [Sem.run_bind, Sem.run_pure, Result.andThen_ok] at hs
    exact (Good.bind (Builtin.len_ _ _ _) (fun x => Pure.pure (Next.value x)) fun x => .pure x) _ _ _ (by simpa only [Sem.run_bind, Sem.run_pure] using hs)
  · rename_i e
    simp only [e, resolve, invoke, builtin]
    intro w w' n hs
    simp only [Sem.run_bind, Sem.run_pure, Result.andThen_ok] at hs
    exact (Good.bind (Builtin.max_ _ _ _) (fun x => Pure.pure (Next.value x)) fun x => .pure x) _ _ _ (by simpa only [Sem.run_bind, Sem.run_pure] using hs)
  · rename_i e
    simp only [e, resolve, invoke, builtin]
    intro w w' n hs
    simp only [Sem.run_bind, Sem.run_pure, Result.andThen_ok] at hs
    exact (Good.bind (Builtin.min_ _ _ _) (fun x => Pure.pure (Next.value x)) fun x => .pure x) _ _ _ (by simpa only [Sem.run_bind, Sem.run_pure] using hs)
  · cases h
/-- what a quiet walk shows of a plain operation -/
theorem yieldsIf_of_qOp {i : Nat} {o : Oper} {a : Act} {K : Act → Prop} (hi : ops[i]? = some o) (hp : plainOp o.op = true) (h : qOp P ops S i K a) : ∃ v, YieldsIf P ops S o v a ∧ K (a.put o.dst v) := by
  obtain ⟨v, hy, hk⟩ := yieldsIn_of_qOp hi h
  refine ⟨v, hy.imp (fun ⟨h1, h2⟩ => ⟨h1, fun w hw => ?_⟩) id, hk⟩
  have h3 := h2 w hw
  unfold Oper.quietAt at h3
  generalize hr : (execOp a.eval o).run P w = r at *
  cases r with
  | ok n w' =>
    obtain ⟨u, rfl⟩ := plain_good hp _ _ _ _ hr
    obtain ⟨rfl, rfl⟩ := h3
    rfl
  | halt x w' => simp only [Oper.quietUpon] at h3
/-- the operations of the list, each ready and free when its turn comes -/
def lexIs (md : Region.Mode) (ops : Array Oper) : List Nat → Array Bool → Bool
  | [], _ => true
  | i :: l, ls => (Region.ready md ops ls).contains i && Region.free md ops ls i && ((ops[i]?).map fun o => plainOp o.op).getD false && lexIs md ops l (ls.setIfInBounds i true)
def setAll : List Nat → Array Bool → Array Bool
  | [], ls => ls
  | i :: l, ls => setAll l (ls.setIfInBounds i true)
def pick (ops : Array Oper) (l : List Nat) : List Oper := l.filterMap (ops[·]?)
theorem wpQuiet_mono' {R R' : Act → Prop} (hR : ∀ a, R a → R' a) : ∀ {l : List Oper} {a : Act}, wpQuiet P ops S R l a → wpQuiet P ops S R' l a := by
  intro l
  induction l with
  | nil => intro a h; exact hR _ h
  | cons o l ih =>
    intro a h
    simp only [wpQuiet] at h ⊢
    split
    · rename_i hw; rw [if_pos hw] at h; exact Oper.quiet_mono (fun a => ih) h
    · rename_i hw; rw [if_neg hw] at h; exact ih h
/-- operations that have one value in whatever world may come first in the region -/
theorem wpAny_pre (hsel : Region.noSelect ops = true) (hQ : ∀ c a a' w, Q (.panic c) a' w → Q (.panic c) a w) {g : Nat} {w : World} (pre : List Nat) :
    ∀ (ls : Array Bool) (a : Act), lexIs md ops pre ls = true → wpQuiet P ops (fun _ => True) (fun a' => wpAny P md ops Q g (setAll pre ls) a' w) (pick ops pre) a → wpAny P md ops Q (pre.length + g) ls a w := by
  induction pre with
  | nil => intro ls a _ h; rw [List.length_nil, Nat.zero_add]; exact h
  | cons i l ih =>
    intro ls a hB h
    simp only [lexIs, Bool.and_eq_true] at hB
    obtain ⟨⟨⟨hr, hf⟩, hp⟩, hB⟩ := hB
    cases ho : ops[i]? with
    | none => rw [ho] at hp; cases hp
    | some o =>
      rw [ho] at hp
      have e : pick ops (i :: l) = o :: pick ops l := by simp [pick, ho]
      rw [e] at h
      have hq : qOp P ops (fun _ => True) i (wpQuiet P ops (fun _ => True) (fun a' => wpAny P md ops Q g (setAll (i :: l) ls) a' w) (pick ops l)) a := by unfold qOp; simp only [ho]; exact h
      obtain ⟨v, hy, hk⟩ := yieldsIf_of_qOp ho hp hq
      have e2 : (i :: l).length + g = (l.length + g) + 1 := by simp only [List.length_cons]; omega
      rw [e2]
      exact wpAny_take ho hsel hf hr (fun c a w h => hQ _ _ _ _ h) (hy.imp (fun ⟨h1, h2⟩ => ⟨h1, fun w => h2 w trivial⟩) id) (ih _ _ hB hk)
def sinkFrom (md : Region.Mode) (ops : Array Oper) (m n : Nat) : Bool :=
  (List.range n).all fun i => decide (i < m) || (List.range (n + 1)).any fun j => decide (i < j) && Region.waitsFor md ops j i
theorem tail_waits' {m n : Nat} {listed : Array Bool} (hs : sinkFrom md ops m n = true) (hc : Region.chainB md ops n = true) (hn : n < ops.size) (inv : HeadInv md ops n listed) :
    ∀ (d i : Nat), n - i = d → m ≤ i → i < n → listed.getD i true = false → ∀ t, n ≤ t → t ∉ Region.ready md ops listed := by
  intro d
  induction d using Nat.strongRecOn with
  | _ d ih =>
    intro i hd hmi hi hun t ht hr
    obtain ⟨_, ot, hot, hall⟩ := mem_ready.1 hr
    have htlt : t < ops.size := (Array.getElem?_eq_some_iff.1 hot).1
    by_cases htn : t = n
    · subst htn
      have h1 := List.all_eq_true.1 hs i (List.mem_range.2 hi)
      have h1' : ((List.range (t + 1)).any fun j => decide (i < j) && Region.waitsFor md ops j i) = true := by
        simp only [Bool.or_eq_true, decide_eq_true_eq] at h1
        rcases h1 with h1 | h1
        · omega
        · exact h1
      obtain ⟨j, hj, hj2⟩ := List.any_eq_true.1 h1'
      simp only [Bool.and_eq_true, decide_eq_true_eq] at hj2
      obtain ⟨oj, hoj, e, he, hb, hon⟩ := Region.waitsFor_spec hj2.2
      have hjle : j ≤ t := by have := List.mem_range.1 hj; omega
      by_cases hjt : j = t
      · subst hjt
        have : oj = ot := Option.some.inj (hoj.symm.trans hot)
        subst this
        have h2 := hall e he hb
        rw [hon, getD_both hun] at h2
        cases h2
      · cases hl : listed.getD j false with
        | true =>
          have h2 := inv.closed j oj hoj hl e he hb
          rw [hon, getD_both hun] at h2
          cases h2
        | false =>
          have hjs : j < listed.size := by rw [inv.size]; omega
          exact ih (t - j) (by omega) j rfl (by omega) (by omega) (getD_in hjs hl) t (Nat.le_refl _) hr
    · have h1 := List.all_eq_true.1 hc t (List.mem_range.2 htlt)
      simp only [Bool.or_eq_true, decide_eq_true_eq] at h1
      rcases h1 with h1 | h1
      · omega
      · obtain ⟨o', ho', e, he, hb, hon⟩ := Region.waitsFor_spec h1
        have : o' = ot := Option.some.inj (ho'.symm.trans hot)
        subst this
        have h2 := hall e he hb
        rw [hon, getD_both (inv.tail (t - 1) (by omega) (by omega))] at h2
        cases h2
/-- whatever is picked within the head; S is kept -/
def headW (P : Program) (md : Region.Mode) (ops : Array Oper) (Q : Exit → Act → World → Prop) (S : World → Prop) (n : Nat) (L : Array Bool → Act → World → Prop) : Nat → Array Bool → Act → World → Prop
  | 0, ls, a, w => L ls a w
  | k + 1, ls, a, w => Region.ready md ops ls ≠ [] ∧ ∀ i ∈ Region.ready md ops ls, i < n ∧ wpOp P ops Q i (fun a' w' => S w' ∧ headW P md ops Q S n L k (ls.setIfInBounds i true) a' w') a w
theorem headW_sound {n g : Nat} {L : Array Bool → Act → World → Prop} (hL : ∀ ls a w, L ls a w → wpAny P md ops Q g ls a w) (k : Nat) :
    ∀ (ls : Array Bool) (a : Act) (w : World), headW P md ops Q S n L k ls a w → wpAny P md ops Q (k + g) ls a w := by
  induction k with
  | zero => intro ls a w h; rw [Nat.zero_add]; exact hL ls a w h
  | succ k ih =>
    intro ls a w h
    have e : k + 1 + g = (k + g) + 1 := by omega
    rw [e]
    exact ⟨fun h0 => absurd h0 h.1, fun i hi => wpOp_mono (fun a' w' h' => ih _ a' w' h'.2) (h.2 i hi).2⟩
theorem headW_first {m n i : Nat} {oi : Oper} {v : Value} {L : Array Bool → Act → World → Prop} (hi : ops[i]? = some oi) (hsel : ∀ (j : Nat) (o : Oper) cs b, ops[j]? = some o → o.op ≠ .select cs b)
    (hs : sinkFrom md ops m n = true) (hc : Region.chainB md ops n = true) (hn : n < ops.size) (hin : i < n) (hQ : ∀ c a a' w, Q (.panic c) a' w → Q (.panic c) a w)
    (hend : ∀ ls a w, L ls a w → ∀ j ∈ Region.ready md ops ls, n ≤ j) (k : Nat) :
    ∀ (ls : Array Bool) (a : Act) (w : World), HeadInv md ops n ls → (∀ i < m, ls.getD i true = true) →
      (∀ j oj, ops[j]? = some oj → j ≠ i → ls.getD j true = false → (∀ e ∈ oj.after, Region.binds md e = true → e.on ≠ i) → oi.apart ops oj = true) →
      i ∈ Region.ready md ops ls → YieldsIf P ops S oi v a → S w → headW P md ops Q S n L k (ls.setIfInBounds i true) (a.put oi.dst v) w → headW P md ops Q S n L (k + 1) ls a w := by
  have inHead : ∀ (ls : Array Bool), HeadInv md ops n ls → (∀ i < m, ls.getD i true = true) → i ∈ Region.ready md ops ls → ∀ j ∈ Region.ready md ops ls, j < n := by
    intro ls inv hm hr j hj
    rcases Nat.lt_or_ge j n with h | h
    · exact h
    · have hun := (mem_ready.1 hr).1
      have hmi : m ≤ i := by
        rcases Nat.lt_or_ge i m with h' | h'
        · rw [hm i h'] at hun; cases hun
        · exact h'
      exact absurd hj (tail_waits' hs hc hn inv _ i rfl hmi hin hun j h)
  induction k with
  | zero =>
    intro ls a w inv hm _ hr hy hS H
    refine ⟨fun h => (by rw [h] at hr; cases hr), fun j hj => ⟨inHead ls inv hm hr j hj, ?_⟩⟩
    by_cases e : j = i
    · subst e; exact hy.wpOp hi hS ⟨hS, H⟩
    · have h1 := hend _ _ _ H j (ready_mono hj e)
      have h2 := inHead ls inv hm hr j hj
      omega
  | succ k ih =>
    intro ls a w inv hm hfree hr hy hS H
    refine ⟨fun h => (by rw [h] at hr; cases hr), fun j hj => ⟨inHead ls inv hm hr j hj, ?_⟩⟩
    by_cases e : j = i
    · subst e; exact hy.wpOp hi hS ⟨hS, H⟩
    · obtain ⟨hju, oj, hoj, hall⟩ := mem_ready.1 hj
      have hnot : ∀ d ∈ oj.after, Region.binds md d = true → d.on ≠ i := fun d hd hb hq => by
        have h1 := hall d hd hb
        rw [hq, getD_both (mem_ready.1 hr).1] at h1
        cases h1
      have h1 := wpOp_putIf hoj (hfree j oj hoj e hju hnot) (fun cs b => hsel i oi cs b hi) (fun cs b => hsel j oj cs b hoj) (fun c a w h => hQ c a _ w h) hy (H.2 j (ready_mono hj e)).2
      refine wpOp_mono (fun a' w' h2 => ⟨h2.2.1, ?_⟩) h1
      refine ih (ls.setIfInBounds j true) a' w' (inv.set hj (inHead ls inv hm hr j hj)) (fun x hx => ?_) (fun q om hq hqi hqu hno => ?_) (ready_mono hr (Ne.symm e)) h2.1 h2.2.1 ?_
      · by_cases hjx : j = x
        · subst hjx
          have := (mem_ready.1 hj).1
          rw [hm j hx] at this
          cases this
        · rw [getD_set_ne true hjx]; exact hm x hx
      · refine hfree q om hq hqi ?_ hno
        by_cases hjm : j = q
        · subst hjm; exact hju
        · rw [getD_set_ne true hjm] at hqu; exact hqu
      · rw [Array.setIfInBounds_comm _ _ e]
        exact h2.2.2
theorem HeadInv.setAll {n : Nat} : ∀ (l : List Nat) (ls : Array Bool), HeadInv md ops n ls → lexIs md ops l ls = true → (∀ i ∈ l, i < n) → HeadInv md ops n (setAll l ls)
  | [], _, inv, _, _ => inv
  | i :: l, ls, inv, hB, hl => by
    simp only [lexIs, Bool.and_eq_true] at hB
    exact HeadInv.setAll l _ (inv.set (by simpa using hB.1.1.1) (hl i (List.mem_cons_self ..))) hB.2 fun j hj => hl j (List.mem_cons_of_mem _ hj)
theorem setAll_true : ∀ (l : List Nat) (ls : Array Bool) (x : Nat), ls.getD x true = true → (Go.Mem.setAll l ls).getD x true = true
  | [], _, _, h => h
  | i :: l, ls, x, h => by
    refine setAll_true l _ x ?_
    by_cases hix : i = x
    · subst hix
      rcases Nat.lt_or_ge i ls.size with h' | h'
      · simp [h']
      · simp [h']
    · rw [getD_set_ne true hix]; exact h
theorem setAll_mem : ∀ (l : List Nat) (ls : Array Bool) (x : Nat), x ∈ l → (Go.Mem.setAll l ls).getD x true = true
  | i :: l, ls, x, h => by
    rcases List.mem_cons.1 h with rfl | h
    · refine setAll_true l _ x ?_
      rcases Nat.lt_or_ge x ls.size with h' | h'
      · simp [h']
      · simp [Array.getElem?_eq_none h']
    · exact setAll_mem l _ x h
/-- operations that have one value in every world that meets S may come first in the head -/
theorem headW_qs {m n k : Nat} {L : Array Bool → Act → World → Prop} {w : World} (hsel : Region.noSelect ops = true) (hs : sinkFrom md ops m n = true) (hc : Region.chainB md ops n = true) (hn : n < ops.size)
    (hQ : ∀ c a a' w, Q (.panic c) a' w → Q (.panic c) a w) (hend : ∀ ls a w, L ls a w → ∀ j ∈ Region.ready md ops ls, n ≤ j) (hS : S w) (qs : List Nat) :
    ∀ (ls : Array Bool) (a : Act), HeadInv md ops n ls → (∀ i < m, ls.getD i true = true) → lexIs md ops qs ls = true → (∀ i ∈ qs, i < n) →
      wpQuiet P ops S (fun a' => headW P md ops Q S n L k (setAll qs ls) a' w) (pick ops qs) a → headW P md ops Q S n L (qs.length + k) ls a w := by
  induction qs with
  | nil => intro ls a _ _ _ _ h; rw [List.length_nil, Nat.zero_add]; exact h
  | cons i l ih =>
    intro ls a inv hm hB hl h
    simp only [lexIs, Bool.and_eq_true] at hB
    obtain ⟨⟨⟨hr, hf⟩, hp⟩, hB⟩ := hB
    cases ho : ops[i]? with
    | none => rw [ho] at hp; cases hp
    | some o =>
      rw [ho] at hp
      have e : pick ops (i :: l) = o :: pick ops l := by simp [pick, ho]
      rw [e] at h
      have hq : qOp P ops S i (wpQuiet P ops S (fun a' => headW P md ops Q S n L k (Go.Mem.setAll (i :: l) ls) a' w) (pick ops l)) a := by unfold qOp; simp only [ho]; exact h
      obtain ⟨v, hy, hk⟩ := yieldsIf_of_qOp ho hp hq
      have e2 : (i :: l).length + k = (l.length + k) + 1 := by simp only [List.length_cons]; omega
      have hr' : i ∈ Region.ready md ops ls := by simpa using hr
      have hin := hl i (List.mem_cons_self ..)
      rw [e2]
      refine headW_first ho (Region.noSelect_spec hsel) hs hc hn hin hQ hend _ ls a w inv hm (Region.free_spec ho hf) hr' hy hS ?_
      refine ih _ _ (inv.set hr' hin) (fun x hx => ?_) hB (fun j hj => hl j (List.mem_cons_of_mem _ hj)) hk
      exact setAll_true [i] ls x (hm x hx)
/-- what the numbers of a region must be -/
def headWB (ops : Array Oper) (m n k : Nat) (qs : List Nat) : Bool :=
  let l0 := Array.replicate ops.size false
  let l1 := setAll (List.range m) l0
  Region.noSelect ops && decide (n < ops.size) && decide (m + (qs.length + k) = n) && sinkFrom .any ops m n && Region.chainB .any ops n && lexIs .any ops (List.range m) l0 && lexIs .any ops qs l1 && qs.all (fun i => decide (i < n)) &&
    decide (m ≤ n)
/-- the law -/
theorem wp_head_tail {id : Nat} {a : Act} {w : World} {l : List Oper} (m n k : Nat) (qs : List Nat) (S : World → Prop) (Fin : Act → World → Prop) (hm : P.follows .mixedOrders = true) (hB : headWB l.toArray m n k qs = true) (hS : S w.drew)
    (h1 : wpQuiet P l.toArray (fun _ => True) (fun a1 => wpQuiet P l.toArray S (fun a2 => headW P .any l.toArray (NoPanic Q) S n
        (fun ls a' w' => Region.seqB .any l.toArray (l.toArray.size - n) n ls = true ∧ Fin a' w') k (setAll qs (setAll (List.range m) (Array.replicate l.toArray.size false))) a2 w.drew) (pick l.toArray qs) a1) (pick l.toArray (List.range m)) a)
    (h2 : ∀ a' w', Fin a' w' → wpList P l.toArray (NoPanic Q) (l.drop n) a' w') : (Code.region id l.toArray true).wp P Q a w := by
  simp only [headWB, Bool.and_eq_true, decide_eq_true_eq] at hB
  obtain ⟨⟨⟨⟨⟨⟨⟨⟨hsel, hn⟩, hmk⟩, hs⟩, hc⟩, hpre⟩, hqs⟩, hqn⟩, hmn⟩ := hB
  have hQ : ∀ c a a' w, NoPanic Q (.panic c) a' w → NoPanic Q (.panic c) a w := fun _ _ _ _ h => (h : False).elim
  have inv0 : HeadInv .any l.toArray n (Array.replicate l.toArray.size false) :=
    ⟨by simp, fun j oj _ hl => (by rw [getD_replicate_false] at hl; cases hl), fun t _ ht => getD_in (by simpa using ht) (getD_replicate_false _ _)⟩
  have inv1 := HeadInv.setAll (List.range m) _ inv0 hpre fun i hi => by have := List.mem_range.1 hi; omega
  refine wp_region_noPanic (wp_region_any hm ?_)
  have hdl : (l.drop n).length = l.toArray.size - n := by simp
  have hsz : l.toArray.size = (List.range m).length + ((qs.length + k) + (l.toArray.size - n)) := by rw [List.length_range]; omega
  have hfu : wpAny P .any l.toArray (NoPanic Q) ((List.range m).length + ((qs.length + k) + (l.toArray.size - n))) (Array.replicate l.toArray.size false) a w.drew := by
    refine wpAny_pre hsel hQ (List.range m) _ _ hpre ?_
    refine wpQuiet_mono' (fun a1 h3 => ?_) h1
    refine headW_sound (n := n) (S := S) (fun ls a' w' hL => ?_) (qs.length + k) _ a1 w.drew ?_ (L := fun ls a' w' => Region.seqB .any l.toArray (l.toArray.size - n) n ls = true ∧ Fin a' w')
    · have := wpAny_of_seq (P := P) (md := .any) (Q' := NoPanic Q) (l.drop n) n ls a' w' (fun j => by simp [List.getElem?_drop]) (by rw [hdl]; exact hL.1) (h2 a' w' hL.2)
      rwa [hdl] at this
    · exact headW_qs hsel hs hc hn hQ (fun ls a w hL => seqB_ready hL.1) hS qs _ a1 inv1 (fun i hi => setAll_mem _ _ i (List.mem_range.2 hi)) hqs (fun i hi => by simpa using List.all_eq_true.1 hqn i hi) h3
  rw [← hsz] at hfu
  exact hfu
/-- whichever comes up -/
theorem headW_all {n k : Nat} {L : Array Bool → Act → World → Prop} {rs : List Nat} {ls : Array Bool} {a : Act} {w : World} (hr : Region.ready md ops ls = rs) (hne : rs ≠ []) (hn : rs.all (fun i => decide (i < n)) = true)
    (h : ∀ i ∈ rs, wpOp P ops Q i (fun a' w' => S w' ∧ headW P md ops Q S n L k (ls.setIfInBounds i true) a' w') a w) : headW P md ops Q S n L (k + 1) ls a w :=
  ⟨fun h0 => hne (hr ▸ h0), fun i hi => ⟨by have := List.all_eq_true.1 hn i (hr ▸ hi); simpa using this, h i (hr ▸ hi)⟩⟩
/-- one operation, walked like a list of one -/
theorem wpOp_list {i : Nat} {o : Oper} {K : Act → World → Prop} {a : Act} {w : World} (ho : ops[i]? = some o) (h : ∀ Q' : Exit → Act → World → Prop, (∀ a w, K a w → Q' .normal a w) → wpList P ops Q' [o] a w) : wpOp P ops Q i K a w := by
  have h1 := h (fun e a w => match e with | .normal => K a w | _ => False) (fun _ _ h => h)
  unfold wpOp
  simp only [ho]
  simp only [wpList] at h1
  split
  · rename_i hw
    rw [if_pos hw] at h1
    rcases h1 with h1 | ⟨_, h1⟩
    · refine .inl ?_
      unfold Oper.wp at *
      generalize (execOp a.eval o).run P w = r at *
      cases r with
      | ok n w' =>
        cases n <;> simp only [Oper.upon] at h1 ⊢ <;>
          first
            | exact h1
            | exact Calls.mono h1 (fun e w'' he => by cases e <;> first | exact he | exact False.elim he | exact (let ⟨_, _, h⟩ := he; False.elim h))
            | exact Rows.mono h1 (fun _ _ he => he)
      | halt x w' => cases x <;> simp only [Oper.upon] at h1 ⊢
    · obtain ⟨_, _, h1⟩ := h1
      exact h1.elim
  · rename_i hw; rw [if_neg hw] at h1; exact h1
/-- the law, with what follows in the place of its predicate -/
theorem wp_head_tail' {id : Nat} {a : Act} {w : World} {l : List Oper} (m n k : Nat) (pre qs : List Nat) (hpre : List.range m = pre) (K : World → Prop) (hm : P.follows .mixedOrders = true) (hB : headWB l.toArray m n k qs = true) (hK : K w.drew)
    (h1 : wpQuiet P l.toArray (fun _ => True) (fun a1 => wpQuiet P l.toArray (fun w' => ∃ y : Wd K, w' = y.w) (fun a2 => headW P .any l.toArray (NoPanic Q) K n
        (fun ls a' w' => Region.seqB .any l.toArray (l.toArray.size - n) n ls = true ∧ wpList P l.toArray (NoPanic Q) (l.drop n) a' w') k (setAll qs (setAll pre (Array.replicate l.toArray.size false))) a2 w.drew) (pick l.toArray qs) a1) (pick l.toArray pre) a) :
    (Code.region id l.toArray true).wp P Q a w := by
  subst hpre
  have e : (fun w' => ∃ y : Wd K, w' = y.w) = K := by
    funext w'
    exact propext ⟨fun ⟨y, hy⟩ => hy ▸ y.h, fun h => ⟨⟨w', h⟩, rfl⟩⟩
  rw [e] at h1
  exact wp_head_tail m n k qs K (fun a' w' => wpList P l.toArray (NoPanic Q) (l.drop n) a' w') hm hB hK h1 (fun _ _ h => h)
theorem headW_mono {n : Nat} {L L' : Array Bool → Act → World → Prop} (hL : ∀ ls a w, L ls a w → L' ls a w) (k : Nat) :
    ∀ (ls : Array Bool) (a : Act) (w : World), headW P md ops Q S n L k ls a w → headW P md ops Q S n L' k ls a w := by
  induction k with
  | zero => exact hL
  | succ k ih => exact fun ls a w h => ⟨h.1, fun i hi => ⟨(h.2 i hi).1, wpOp_mono (fun a' w' h' => ⟨h'.1, ih _ a' w' h'.2⟩) (h.2 i hi).2⟩⟩
/-- the law, with a predicate between the loud operations and the tail -/
theorem wp_head_tail3 {id : Nat} {a : Act} {w : World} {l : List Oper} (m n k : Nat) (pre qs : List Nat) (hpre : List.range m = pre) (K : World → Prop) (Fin : Act → Act → World → Prop) (hm : P.follows .mixedOrders = true) (hB : headWB l.toArray m n k qs = true) (hK : K w.drew)
    (h1 : wpQuiet P l.toArray (fun _ => True) (fun a1 => wpQuiet P l.toArray (fun w' => ∃ y : Wd K, w' = y.w) (fun a2 => headW P .any l.toArray (NoPanic Q) K n
        (fun ls a' w' => Region.seqB .any l.toArray (l.toArray.size - n) n ls = true ∧ Fin a2 a' w') k (setAll qs (setAll pre (Array.replicate l.toArray.size false))) a2 w.drew ∧
        ∀ a' w', Fin a2 a' w' → wpList P l.toArray (NoPanic Q) (l.drop n) a' w') (pick l.toArray qs) a1) (pick l.toArray pre) a) :
    (Code.region id l.toArray true).wp P Q a w :=
  wp_head_tail' m n k pre qs hpre K hm hB hK (wpQuiet_mono' (fun _ h => wpQuiet_mono' (fun _ h' => headW_mono (fun _ _ _ hl => ⟨hl.1, h'.2 _ _ hl.2⟩) _ _ _ _ h'.1) h) h1)
end Go.Mem
